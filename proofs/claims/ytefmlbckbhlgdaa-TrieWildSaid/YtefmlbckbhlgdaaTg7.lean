/- Tries in memory: the reference's lay, walked. Tries in memory: the trie that the document makes of pairs. Tries in memory: nodes and pairs that are alike. Tries in memory: the reference's Like and Same; slices.Equal; the trie's same. Tries in memory: slices.Equal of nodes, the reference's Same of pairs, the trie's same. -/
import Derived.ChangeKeysEq
import Derived.Test.YtefmlbckbhlgdaaTg6
namespace Go.Proofs.Ytefmlbckbhlgdaa
open Go.RowKit
set_option maxRecDepth 100000
/-- A row that no node of lies in a block. -/
def Apart (v : Value) (l : List Nd) (k : Nat) : Prop := l = [] ∨ v.ownBlock ≠ some k
theorem RN.apart {w : World} {v : Value} {l : List Nd} (h : RN w v l) {k : Nat} (hk : w.heap.size ≤ k) : Apart v l k := by
  rcases h with ⟨_, h⟩ | ⟨a, cap, rfl, h1, h2, hc⟩
  · exact .inl h
  · cases l with
    | nil => exact .inl rfl
    | cons n l =>
      have h0 := hc 0 (.int .i64 n.kind) rfl
      have := block_lt_of_cell h0
      have hb : (a.add 0).block = a.block := by rw [Addr.add_zero']
      refine .inr fun e => ?_
      simp only [Value.ownBlock, Option.some.injEq] at e
      omega
theorem RN.set {w : World} {v : Value} {l : List Nd} (h : RN w v l) {k : Nat} (ha : Apart v l k) (i : Nat) (x : Value) : RN (w.setCell ⟨k, i, none⟩ x) v l := by
  rcases h with h | ⟨a, cap, rfl, h1, h2, hc⟩
  · exact .inl h
  · refine .inr ⟨a, cap, rfl, h1, h2, fun j u hj => ?_⟩
    have h0 := hc j u hj
    rcases ha with rfl | ha
    · simp [flat] at hj
    · have hb : (a.add j).block = a.block := by unfold Addr.add; split <;> rfl
      rw [World.cell?_of_block (heap_setCell_other _ _ _ _ (by rw [hb]; intro e; exact ha (by simp [Value.ownBlock, e])))]
      exact h0
/-- What lay answers. -/
def LayAns (v0 : Value) (ns : List Nd) (r : List Nd × Int) (w : World) (e : Ending) (w' : World) : Prop := ∃ v, e = .returned (.tuple #[v, .int .i64 r.2]) ∧ RN w' v r.1 ∧ Below w.heap.size w w' ∧ ∀ k, k < w.heap.size → Apart v0 ns k → Apart v r.1 k
def LayC (f : Nat) : Prop := ∀ (l : List Pr) (ns : List Nd) (v0 v1 : Value) (w : World), RN w v0 ns → RP w v1 l → (∀ p ∈ l, p.1.length < f) → l.length ≤ 1000 → ns.length + f * l.length ≤ 500000 →
  Calls Try.prog 43 #[v0, v1] w (LayAns v0 ns (layF f l ns) w)

set_option maxHeartbeats 8000000 in
theorem rlay_leaf (p0 : Pr) (ns : List Nd) (v0 v1 : Value) (w : World) (h0 : RN w v0 ns) (h1 : RP w v1 [p0]) (hz : p0.1.length ≤ 1000) (hn : ns.length ≤ 600000) :
    Calls Try.prog 43 #[v0, v1] w (LayAns v0 ns (ns ++ [leafN p0], (ns.length : Int)) w) := by
  have KK := Lib.hid (rkids_none w)
  have KC := Lib.hid (fun W (hb : Below w.heap.size w W) => rcommon_any v1 p0 [] W (RP.below h1 hb (Nat.le_refl _)) (by simp) (fun p hp => by simp only [List.mem_singleton] at hp; subst hp; omega))
  obtain ⟨pa, ca, rfl, a1, a2⟩ := RowE.shape encN h0
  obtain ⟨pb, cb, rfl, b1, b2⟩ := RowE.shape encP h1
  simp only [List.length_singleton] at *
  have H0 := Lib.hid h0
  have H1 := Lib.hid h1
  clear h0 h1
  unfold maxLen at a2 b2
  generalize commonL [p0] = cm at *
  go_enter Try.func43, Try.ntmps43
  go_upto_region 4 with (first
    | (go_at_call 79; (with_reducible refine KK.out.mono ?_); rintro e w1 ⟨rfl, hb⟩; have HB := Lib.hid hb; clear hb KK; unfold noK)
    | (refine wpList_store_nd rfl _ _ rfl w1.heap.size zN rfl rfl _ (RowAt.new w1 _ _) rfl ?_; intro w2 hr2 hb2 ho2 hs2; have R := Lib.hid hr2; have HB2 := Lib.hid (hb2 _ _ (HB.out.alloc HB.out.size _) HB.out.size); have HK := Lib.hid HB.out.size; clear hr2 hb2 ho2 hs2))
  generalize w1.heap.size = k1 at *
  clear HB
  go_upto_region 5 with (go_at_call 80; (with_reducible refine (KC.out w2 HB2.out).mono ?_); rintro e w3 ⟨rfl, hb⟩; (replace R := Lib.hid (R.out.belowS hb); replace HB2 := Lib.hid (HB2.out.trans (hb.mono HB2.out.size)); clear hb); clear KC)
  obtain ⟨c0, c1, c2, f0, f1, f2⟩ := R.out.nd
  go_upto_region 7 with (fail)
  have R1 := Lib.hid (R.out.ndKind 1)
  have HB3 := Lib.hid (HB2.out.setCell (p := ⟨k1, 0, none⟩) HK.out (.int .i64 1))
  clear c0 c1 c2 f0 f1 f2 R HB2
  generalize w3.setCell ⟨k1, 0, none⟩ (.int .i64 1) = w4 at *
  obtain ⟨c0, c1, c2, f0, f1, f2⟩ := R1.out.nd
  obtain ⟨a, rfl, d0, d1⟩ := RP.at (RP.below H1.out HB3.out (Nat.le_refl _)) (i := 0) rfl
  rw [Nat.zero_mul, Addr.add_zero'] at d0 d1
  go_upto_region 8 with (fail)
  have R2 := Lib.hid (R1.out.ndPart p0.1)
  have HB4 := Lib.hid (HB3.out.setCell (p := ⟨k1, 1, none⟩) HK.out (.string (mkS p0.1)))
  clear c0 c1 c2 f0 f1 f2 R1 HB3 d0 d1
  generalize w4.setCell ⟨k1, 1, none⟩ (.string (mkS p0.1)) = w5 at *
  obtain ⟨c0, c1, c2, f0, f1, f2⟩ := R2.out.nd
  obtain ⟨a', e', d0, d1⟩ := RP.at (RP.below H1.out HB4.out (Nat.le_refl _)) (i := 0) rfl
  obtain rfl := Option.some.inj e'
  clear e'
  rw [Nat.zero_mul, Addr.add_zero'] at d0 d1
  go_upto_region 24 with (fail)
  have R3 := Lib.hid (show RowAt _ k1 (ndc (leafN p0)) 88 from R2.out.ndValue p0.2)
  have HB5 := Lib.hid (HB4.out.setCell (p := ⟨k1, 2, none⟩) HK.out (.string (mkS p0.2)))
  clear c0 c1 c2 f0 f1 f2 R2 HB4 d0 d1
  generalize w5.setCell ⟨k1, 2, none⟩ (.string (mkS p0.2)) = w6 at *
  have HN0 := Lib.hid (RN.below H0.out HB5.out (Nat.le_refl _))
  have O0 := Lib.hid (show ON (w6.alloc (.cells #[] 88)) w6.heap.size (.slice (some ⟨w6.heap.size, 0, none⟩) 0 0) [] from OwnE.start encN (Nat.le_refl _))
  have R4 := Lib.hid (R3.out.alloc (.cells #[] 88))
  have HB6 := Lib.hid (HB5.out.alloc HB5.out.size (.cells #[] 88))
  have HK6 := Lib.hid R3.out.lt
  have HN := Lib.hid (HN0.out.below ((Below.refl w6.heap.size w6).alloc (Nat.le_refl _) (.cells #[] 88)) (Nat.le_refl _))
  have HZ7 := Lib.hid (show w6.heap.size ≤ (w6.alloc (.cells #[] 88)).heap.size by simp)
  have HZ6 := Lib.hid HB5.out.size
  clear R3 HB5 HN0
  go_upto_region 25 with (fail)
  generalize w6.alloc (.cells #[] 88) = w7 at *
  generalize w6.heap.size = b6 at *
  go_upto_region 26 with (at_builtin; refine wpList_append_nd rfl _ _ rfl b6 _ [] rfl O0.out _ ns rfl HN.out (by simp; omega) HZ7.out ?_)
  intro v8 w8 ho8 hb8 hz8 hg8
  have O8 := Lib.hid (show ON w8 b6 v8 ns from ho8)
  have R5 := Lib.hid (R4.out.grown hg8 (by have := HK6.out; simp [Value.ownBlock]; omega))
  have HB8 := Lib.hid (HB6.out.trans ((hb8 w7 (Below.refl _ _)).mono HZ6.out))
  have HZ8 := Lib.hid (Nat.le_trans HZ7.out hz8)
  clear ho8 hb8 hz8 hg8 O0 R4 HB6 HN HZ7
  go_upto_region 27 with (first
    | (refine wpList_load_nd rfl _ rfl _ (leafN p0) rfl (NdAt.ofRow R5.out) ?_)
    | (refine wpList_one_nd rfl _ rfl (leafN p0) rfl ?_)
    | (at_builtin; refine wpList_append_nd rfl _ _ rfl b6 _ ns rfl (O8.out.below ((Below.refl w8.heap.size w8).alloc (Nat.le_refl _) _) (Nat.le_refl _)) _ [leafN p0] rfl (RowE.lit encN (heap_alloc_new _ _) (leafN p0) rfl) (by simp; omega) (by have := HZ8.out; simp; omega) ?_))
  intro v9 w9 ho9 hb9 hz9 hg9
  have O9 := Lib.hid (OwnE.row encN ho9)
  have HB9 := Lib.hid (HB8.out.trans ((hb9 w8 ((Below.refl _ _).alloc HZ8.out _)).mono HZ6.out))
  have HA9 := Lib.hid (fun (b : Nat) (hb : b < w.heap.size) => show Apart v9 (ns ++ [leafN p0]) b from .inr fun e => by have := (World.ownsRow.lt ho9 b e).1; have := HZ6.out; omega)
  clear ho9 hb9 hz9 hg9 O8 R5 HB8
  obtain ⟨pz, cz, rfl, z1, z2⟩ := RowE.shape encN O9.out
  simp only [List.length_append, List.length_singleton] at *
  unfold maxLen at z2
  go_wp2
  refine bodyPost_ret (v := .tuple #[.slice pz (ns.length + 1) cz, .int .i64 ns.length]) (by simp [results, Try.results43, go_sem]) rfl ?_
  exact ⟨_, rfl, O9.out, HB9.out, fun b hb _ => HA9.out b hb⟩

set_option maxHeartbeats 8000000 in
theorem rlay_joint (p0 : Pr) (t : List Pr) (ns xs : List Nd) (k : Nat) (ix : Int) (v0 v1 : Value) (w : World) (hk : k = commonL (p0 :: t)) (hpos : 0 < k) (ht : 1 ≤ t.length) (h0 : RN w v0 ns) (h1 : RP w v1 (p0 :: t)) (hz : ∀ p ∈ p0 :: t, p.1.length ≤ 1000) (hl : (p0 :: t).length ≤ 1000) (hn : xs.length ≤ 600000)
    (KL : ∀ W v0 v1, RN W v0 ns → RP W v1 (cutK k (p0 :: t)) → Calls Try.prog 43 #[v0, v1] W (LayAns v0 ns (xs, ix) W)) :
    Calls Try.prog 43 #[v0, v1] w (LayAns v0 ns (xs ++ [jointN (p0.1.take k) ix], (xs.length : Int)) w) := by
  have KK := Lib.hid (rkids_none w)
  have KC := Lib.hid (fun W (hb : Below w.heap.size w W) => rcommon_any v1 p0 t W (RP.below h1 hb (Nat.le_refl _)) (by omega) (fun p hp => by have := hz p hp; omega))
  have hk0 : k ≤ p0.1.length := by rw [hk]; exact commonL_le.1
  have hk1 : k ≤ 1000 := by have := hz p0 List.mem_cons_self; omega
  have ec : cutP 16 k (p0 :: t) = cutK k (p0 :: t) := by unfold cutP; rw [selC_all]
  have KT := Lib.hid (fun W (hb : Below w.heap.size w W) => rcut_any 16 k v1 (p0 :: t) W (RP.below h1 hb (Nat.le_refl _)) (by omega) (by omega) (by omega) (fun p hp _ => by rw [hk]; exact (common_take p hp).2) (fun p hp => by have := hz p hp; omega))
  rw [ec, show ((16 : Nat) : Int) = 16 from rfl] at KT
  rw [← hk] at KC
  replace KL := Lib.hid KL
  obtain ⟨pa, ca, rfl, a1, a2⟩ := RowE.shape encN h0
  obtain ⟨pb, cb, rfl, b1, b2⟩ := RowE.shape encP h1
  have hg2 := hl
  have hg1 : ¬ ((p0 :: t).length : Int) = 1 := by rw [List.length_cons]; omega
  have hg3 : ¬ ((p0 :: t).length : Int) = 0 := by rw [List.length_cons]; omega
  have hg4 : 1 ≤ (p0 :: t).length := by rw [List.length_cons]; omega
  have H0 := Lib.hid h0
  have H1 := Lib.hid h1
  have hkk := Lib.hid (show (0 : Int) < k by omega)
  have hsz := mk_size p0.1
  have htk := mkS_take p0.1 k
  have hx0 : (p0 :: t)[0]? = some p0 := rfl
  clear h0 h1 hk ec hz hl ht
  generalize p0 :: t = l at *
  generalize cutK k l = l2 at *
  unfold maxLen at a2 b2
  generalize hln : l.length = ln at *
  clear hln
  go_enter Try.func43, Try.ntmps43
  go_upto_region 4 with (first
    | (go_at_call 79; (with_reducible refine KK.out.mono ?_); rintro e w1 ⟨rfl, hb⟩; have HB := Lib.hid hb; clear hb KK; unfold noK)
    | (refine wpList_store_nd rfl _ _ rfl w1.heap.size zN rfl rfl _ (RowAt.new w1 _ _) rfl ?_; intro w2 hr2 hb2 ho2 hs2; have R := Lib.hid hr2; have HB2 := Lib.hid (hb2 _ _ (HB.out.alloc HB.out.size _) HB.out.size); have HK := Lib.hid HB.out.size; clear hr2 hb2 ho2 hs2))
  generalize w1.heap.size = k1 at *
  clear HB
  go_upto_region 5 with (go_at_call 80; (with_reducible refine (KC.out w2 HB2.out).mono ?_); rintro e w3 ⟨rfl, hb⟩; (replace R := Lib.hid (R.out.belowS hb); replace HB2 := Lib.hid (HB2.out.trans (hb.mono HB2.out.size)); clear hb); clear KC)
  obtain ⟨c0, c1, c2, f0, f1, f2⟩ := R.out.nd
  go_upto_region 11 with (fail)
  have R1 := Lib.hid (R.out.ndKind 2)
  have HB3 := Lib.hid (HB2.out.setCell (p := ⟨k1, 0, none⟩) HK.out (.int .i64 2))
  clear c0 c1 c2 f0 f1 f2 R HB2
  generalize w3.setCell ⟨k1, 0, none⟩ (.int .i64 2) = w4 at *
  obtain ⟨c0, c1, c2, f0, f1, f2⟩ := R1.out.nd
  obtain ⟨a, rfl, d0, d1⟩ := RP.at (RP.below H1.out HB3.out (Nat.le_refl _)) hx0
  rw [Nat.zero_mul, Addr.add_zero'] at d0 d1
  go_upto_region 12 with (fail)
  have R2 := Lib.hid (R1.out.ndPart (p0.1.take k))
  have HB4 := Lib.hid (HB3.out.setCell (p := ⟨k1, 1, none⟩) HK.out (.string (mkS (p0.1.take k))))
  clear c0 c1 c2 f0 f1 f2 R1 HB3 d0 d1
  generalize w4.setCell ⟨k1, 1, none⟩ (.string (mkS (p0.1.take k))) = w5 at *
  go_upto_region 14 with (first
    | (go_at_call 81; (with_reducible refine (KT.out w5 HB4.out).mono ?_); rintro e w6 ⟨v6, rfl, hr, hb⟩; have H6 := Lib.hid hr; clear hr; (replace R2 := Lib.hid (R2.out.belowS hb); replace HB4 := Lib.hid (HB4.out.trans (hb.mono HB4.out.size)); clear hb))
    | (go_at_call 43; (with_reducible refine (KL.out w6 _ v6 (RN.below H0.out HB4.out (Nat.le_refl _)) H6.out).mono ?_); rintro e w7 ⟨v7, rfl, hr, hb, hap⟩; have H7 := Lib.hid hr; have HA7 := Lib.hid (hap k1 R2.out.lt (RN.apart H0.out HK.out)); clear hr hap H6; (replace R2 := Lib.hid (R2.out.belowS hb); replace HB4 := Lib.hid (HB4.out.trans (hb.mono HB4.out.size)); clear hb)))
  obtain ⟨c3, f3⟩ : w7.cell? ⟨k1, 3, none⟩ = some (kidV ⟨2, p0.1.take k, zN.value, zN.kids⟩ 0) ∧ w7.frozen? ⟨k1, 3, none⟩ = false := R2.out.ndK 0 (by omega)
  go_upto_region 24 with (fail)
  have R3 := Lib.hid (show RowAt _ k1 (ndc (jointN (p0.1.take k) ix)) 88 from R2.out.ndKid rfl 0 (by omega) ix)
  have HB5 := Lib.hid (HB4.out.setCell (p := ⟨k1, 3, none⟩) HK.out (.int .i64 ix))
  have HN0 := Lib.hid (H7.out.set HA7.out 3 (.int .i64 ix))
  clear c3 f3 R2 HB4 H7 HA7
  generalize w7.setCell ⟨k1, 3, none⟩ (.int .i64 ix) = w6 at *
  have O0 := Lib.hid (show ON (w6.alloc (.cells #[] 88)) w6.heap.size (.slice (some ⟨w6.heap.size, 0, none⟩) 0 0) [] from OwnE.start encN (Nat.le_refl _))
  have R4 := Lib.hid (R3.out.alloc (.cells #[] 88))
  have HB6 := Lib.hid (HB5.out.alloc HB5.out.size (.cells #[] 88))
  have HK6 := Lib.hid R3.out.lt
  have HN := Lib.hid (HN0.out.below ((Below.refl w6.heap.size w6).alloc (Nat.le_refl _) (.cells #[] 88)) (Nat.le_refl _))
  have HZ7 := Lib.hid (show w6.heap.size ≤ (w6.alloc (.cells #[] 88)).heap.size by simp)
  have HZ6 := Lib.hid HB5.out.size
  clear R3 HB5 HN0
  go_upto_region 25 with (fail)
  generalize w6.alloc (.cells #[] 88) = w7 at *
  generalize w6.heap.size = b6 at *
  go_upto_region 26 with (at_builtin; refine wpList_append_nd rfl _ _ rfl b6 _ [] rfl O0.out _ xs rfl HN.out (by simp; omega) HZ7.out ?_)
  intro v8 w8 ho8 hb8 hz8 hg8
  have O8 := Lib.hid (show ON w8 b6 v8 xs from ho8)
  have R5 := Lib.hid (R4.out.grown hg8 (by have := HK6.out; simp [Value.ownBlock]; omega))
  have HB8 := Lib.hid (HB6.out.trans ((hb8 w7 (Below.refl _ _)).mono HZ6.out))
  have HZ8 := Lib.hid (Nat.le_trans HZ7.out hz8)
  clear ho8 hb8 hz8 hg8 O0 R4 HB6 HN HZ7
  go_upto_region 27 with (first
    | (refine wpList_load_nd rfl _ rfl _ (jointN (p0.1.take k) ix) rfl (NdAt.ofRow R5.out) ?_)
    | (refine wpList_one_nd rfl _ rfl (jointN (p0.1.take k) ix) rfl ?_)
    | (at_builtin; refine wpList_append_nd rfl _ _ rfl b6 _ xs rfl (O8.out.below ((Below.refl w8.heap.size w8).alloc (Nat.le_refl _) _) (Nat.le_refl _)) _ [jointN (p0.1.take k) ix] rfl (RowE.lit encN (heap_alloc_new _ _) (jointN (p0.1.take k) ix) rfl) (by simp; omega) (by have := HZ8.out; simp; omega) ?_))
  intro v9 w9 ho9 hb9 hz9 hg9
  have O9 := Lib.hid (OwnE.row encN ho9)
  have HB9 := Lib.hid (HB8.out.trans ((hb9 w8 ((Below.refl _ _).alloc HZ8.out _)).mono HZ6.out))
  have HA9 := Lib.hid (fun (b : Nat) (hb : b < w.heap.size) => show Apart v9 (xs ++ [jointN (p0.1.take k) ix]) b from .inr fun e => by have := (World.ownsRow.lt ho9 b e).1; have := HZ6.out; omega)
  clear ho9 hb9 hz9 hg9 O8 R5 HB8
  obtain ⟨pz, cz, rfl, z1, z2⟩ := RowE.shape encN O9.out
  simp only [List.length_append, List.length_singleton] at *
  unfold maxLen at z2
  go_wp2
  refine bodyPost_ret (v := .tuple #[.slice pz (xs.length + 1) cz, .int .i64 xs.length]) (by simp [results, Try.results43, go_sem]) rfl ?_
  exact ⟨_, rfl, O9.out, HB9.out, fun b hb _ => HA9.out b hb⟩

theorem kids_set (IX : Nat → Int) (c : Nat) (hc : c < 16) : ((List.range c).map IX ++ List.replicate (16 - c) (-1)).set c (IX c) = (List.range (c + 1)).map IX ++ List.replicate (16 - (c + 1)) (-1) := by
  have hl : ((List.range c).map IX).length = c := by simp
  rw [List.set_append_right _ _ (by rw [hl]; exact Nat.le_refl _), hl, Nat.sub_self, show 16 - c = (16 - (c + 1)) + 1 by omega, List.replicate_succ, List.set_cons_zero, List.range_succ, List.map_append, List.append_assoc]
  rfl
theorem kids_len (IX : Nat → Int) (c : Nat) (hc : c ≤ 16) : ((List.range c).map IX ++ List.replicate (16 - c) (-1)).length = 16 := by simp; omega
set_option maxHeartbeats 8000000 in
theorem rlay_branch (p0 : Pr) (t : List Pr) (NS : Nat → List Nd) (IX : Nat → Int) (v0 v1 : Value) (w : World) (hk : commonL (p0 :: t) = 0) (ht : 1 ≤ t.length) (h0 : RN w v0 (NS 0)) (h1 : RP w v1 (p0 :: t)) (hz : ∀ p ∈ p0 :: t, p.1.length ≤ 1000) (hl : (p0 :: t).length ≤ 1000) (hn : (NS 16).length ≤ 600000)
    (KL : ∀ c, c < 16 → ∀ W v0 v1, RN W v0 (NS c) → RP W v1 (cutC c (p0 :: t)) → Calls Try.prog 43 #[v0, v1] W (LayAns v0 (NS c) (NS (c + 1), IX c) W)) :
    Calls Try.prog 43 #[v0, v1] w (LayAns v0 (NS 0) (NS 16 ++ [branchN (valE (p0 :: t)) ((List.range 16).map IX)], ((NS 16).length : Int)) w) := by
  have KK := Lib.hid (rkids_none w)
  have KC := Lib.hid (fun W (hb : Below w.heap.size w W) => rcommon_any v1 p0 t W (RP.below h1 hb (Nat.le_refl _)) (by omega) (fun p hp => by have := hz p hp; omega))
  have KG := Lib.hid (fun W (hb : Below w.heap.size w W) => rget_any [] v1 (p0 :: t) W (RP.below h1 hb (Nat.le_refl _)))
  have KT := Lib.hid (fun (c : Nat) (hc : c < 16) W (hb : Below w.heap.size w W) => show Calls Try.prog 81 #[v1, .int .i64 c, .int .i64 1] W fun e w' => ∃ v', e = .returned v' ∧ RP w' v' (cutC c (p0 :: t)) ∧ Below W.heap.size W w' by
    have := rcut_any c 1 v1 (p0 :: t) W (RP.below h1 hb (Nat.le_refl _)) (by omega) (by omega) (by omega) (fun p hp hs => by
      unfold selC at hs
      rw [decide_eq_false (by omega), Bool.false_or] at hs
      obtain ⟨x, r, e, _⟩ := hasC_some hs
      rw [e]; simp) (fun p hp => by have := hz p hp; omega)
    have e : cutP c 1 (p0 :: t) = cutC c (p0 :: t) := by unfold cutP cutC; rw [selC_some (by omega)]
    rw [e] at this
    exact this)
  rw [getL_nil] at KG
  rw [hk] at KC
  replace KG : Hid (∀ W, Below w.heap.size w W → Calls Try.prog 34 #[v1, .string ⟨#[]⟩] W fun e w' => e = .returned (.tuple #[.string (mkS (valE (p0 :: t))), .bool (getL [] (p0 :: t)).isSome]) ∧ Below W.heap.size W w') := KG
  replace KL := Lib.hid KL
  obtain ⟨pa, ca, rfl, a1, a2⟩ := RowE.shape encN h0
  obtain ⟨pb, cb, rfl, b1, b2⟩ := RowE.shape encP h1
  have hg2 := hl
  have hg1 : ¬ ((p0 :: t).length : Int) = 1 := by rw [List.length_cons]; omega
  have hg3 : ¬ ((p0 :: t).length : Int) = 0 := by rw [List.length_cons]; omega
  have H0 := Lib.hid h0
  have H1 := Lib.hid h1
  clear h0 h1 hk hz hl ht
  generalize valE (p0 :: t) = vl at *
  generalize (getL [] (p0 :: t)).isSome = bg at *
  generalize p0 :: t = l at *
  unfold maxLen at a2 b2
  generalize hln : l.length = ln at *
  clear hln
  generalize hns : NS 0 = ns at *
  go_enter Try.func43, Try.ntmps43
  go_upto_region 4 with (first
    | (go_at_call 79; (with_reducible refine KK.out.mono ?_); rintro e w1 ⟨rfl, hb⟩; have HB := Lib.hid hb; clear hb KK; unfold noK)
    | (refine wpList_store_nd rfl _ _ rfl w1.heap.size zN rfl rfl _ (RowAt.new w1 _ _) rfl ?_; intro w2 hr2 hb2 ho2 hs2; have R := Lib.hid hr2; have HB2 := Lib.hid (hb2 _ _ (HB.out.alloc HB.out.size _) HB.out.size); have HK := Lib.hid HB.out.size; clear hr2 hb2 ho2 hs2))
  generalize w1.heap.size = k1 at *
  clear HB
  go_upto_region 5 with (go_at_call 80; (with_reducible refine (KC.out w2 HB2.out).mono ?_); rintro e w3 ⟨rfl, hb⟩; (replace R := Lib.hid (R.out.belowS hb); replace HB2 := Lib.hid (HB2.out.trans (hb.mono HB2.out.size)); clear hb); clear KC)
  obtain ⟨c0, c1, c2, f0, f1, f2⟩ := R.out.nd
  go_upto_region 16 with (fail)
  have R1 := Lib.hid (R.out.ndKind 3)
  have HB3 := Lib.hid (HB2.out.setCell (p := ⟨k1, 0, none⟩) HK.out (.int .i64 3))
  clear c0 c1 c2 f0 f1 f2 R HB2
  generalize w3.setCell ⟨k1, 0, none⟩ (.int .i64 3) = w4 at *
  obtain ⟨c0, c1, c2, f0, f1, f2⟩ := R1.out.nd
  clear c0 c1 c2 f0 f1 f2
  go_upto_region 17 with (go_at_call 34; (with_reducible refine (KG.out w4 HB3.out).mono ?_); rintro e w5 ⟨rfl, hb⟩; (replace R1 := Lib.hid (R1.out.belowS hb); replace HB3 := Lib.hid (HB3.out.trans (hb.mono HB3.out.size)); clear hb); clear KG)
  obtain ⟨c0, c1, c2, f0, f1, f2⟩ := R1.out.nd
  go_upto_region 19 with (fail)
  have R2 := Lib.hid (show RowAt _ k1 (ndc ⟨3, [], vl, (List.range 0).map IX ++ List.replicate (16 - 0) (-1)⟩) 88 from R1.out.ndValue vl)
  have HB4 := Lib.hid (HB3.out.setCell (p := ⟨k1, 2, none⟩) HK.out (.string (mkS vl)))
  clear c0 c1 c2 f0 f1 f2 R1 HB3
  generalize w5.setCell ⟨k1, 2, none⟩ (.string (mkS vl)) = w6 at *
  have HN6 := Lib.hid (show RN w6 (.slice pa ns.length ca) (NS 0) by rw [hns]; exact RN.below H0.out HB4.out (Nat.le_refl _))
  have HA6 := Lib.hid (show Apart (.slice pa ns.length ca) (NS 0) k1 by rw [hns]; exact RN.apart H0.out HK.out)
  go_loopw [0, 12] (fun s0 s12 wr => ∃ c : Nat, c ≤ 16 ∧ s12 = .int .i64 c ∧ Hid (RN wr s0 (NS c)) ∧ Hid (Apart s0 (NS c) k1) ∧ Hid (RowAt wr k1 (ndc ⟨3, [], vl, (List.range c).map IX ++ List.replicate (16 - c) (-1)⟩) 88) ∧ Hid (Below w.heap.size w wr)) (fun _ s _ => 16 - (intOf s).toNat)
  case atStart => exact ⟨0, Nat.zero_le _, rfl, HN6, HA6, R2, HB4⟩
  case round =>
    clear HN6 HA6 R2 HB4
    obtain ⟨c, hc, rfl, hn1, ha1, hr1, hb1⟩ := hrel
    have HN := Lib.hid hn1.out
    have HA := Lib.hid ha1.out
    have R := Lib.hid hr1.out
    have HB := Lib.hid hb1.out
    clear hn1 ha1 hr1 hb1
    by_cases hlt : c < 16
    · have KT1 := Lib.hid (KT.out c hlt)
      have KL1 := Lib.hid (KL.out c hlt)
      have hse := kids_set IX c hlt
      go_upto_region 23 with (first
        | (go_at_call 81; (with_reducible refine (KT1.out wr HB.out).mono ?_); rintro e w6 ⟨v6, rfl, hr, hb⟩; have H6 := Lib.hid hr; clear hr; (replace R := Lib.hid (R.out.belowS hb); replace HN := Lib.hid (HN.out.below hb (Nat.le_refl _)); replace HB := Lib.hid (HB.out.trans (hb.mono HB.out.size)); clear hb))
        | (go_at_call 43; (with_reducible refine (KL1.out w6 _ v6 HN.out H6.out).mono ?_); rintro e w7 ⟨v7, rfl, hr, hb, hap⟩; have H7 := Lib.hid hr; have HA7 := Lib.hid (hap k1 R.out.lt HA.out); clear hr hap H6 HN HA; (replace R := Lib.hid (R.out.belowS hb); replace HB := Lib.hid (HB.out.trans (hb.mono HB.out.size)); clear hb)))
      obtain ⟨c3, f3⟩ := R.out.ndK c hlt
      have R3 := Lib.hid (show RowAt (w7.setCell ⟨k1, 3 + c, none⟩ (.int .i64 (IX c))) k1 (ndc ⟨3, [], vl, (List.range (c + 1)).map IX ++ List.replicate (16 - (c + 1)) (-1)⟩) 88 from by
        have := R.out.ndKid (kids_len IX c (by omega)) c hlt (IX c)
        simp only [hse] at this
        exact this)
      have HB5 := Lib.hid (HB.out.setCell (p := ⟨k1, 3 + c, none⟩) HK.out (.int .i64 (IX c)))
      have H8 := Lib.hid (H7.out.set HA7.out (3 + c) (.int .i64 (IX c)))
      clear H7 R HB KT1 KL1 hse
      go_wp2
      exact ⟨⟨c + 1, by omega, by simp, H8, HA7, R3, HB5⟩, by simp [intOf]; omega⟩
    · obtain rfl : c = 16 := by omega
      have HN0 := HN
      have R3 := Lib.hid (show RowAt wr k1 (ndc (branchN vl ((List.range 16).map IX))) 88 from by
        have := R.out
        rw [show 16 - 16 = 0 from rfl, List.replicate_zero, List.append_nil] at this
        exact this)
      have HB5 := HB
      clear HN HA R HB KT KL
      generalize NS 16 = xs at *
      generalize (List.range 16).map IX = ks at *
      generalize wr = w6 at *
      go_upto_region 24 with (fail)
      have O0 := Lib.hid (show ON (w6.alloc (.cells #[] 88)) w6.heap.size (.slice (some ⟨w6.heap.size, 0, none⟩) 0 0) [] from OwnE.start encN (Nat.le_refl _))
      have R4 := Lib.hid (R3.out.alloc (.cells #[] 88))
      have HB6 := Lib.hid (HB5.out.alloc HB5.out.size (.cells #[] 88))
      have HK6 := Lib.hid R3.out.lt
      have HN := Lib.hid (HN0.out.below ((Below.refl w6.heap.size w6).alloc (Nat.le_refl _) (.cells #[] 88)) (Nat.le_refl _))
      have HZ7 := Lib.hid (show w6.heap.size ≤ (w6.alloc (.cells #[] 88)).heap.size by simp)
      have HZ6 := Lib.hid HB5.out.size
      clear R3 HB5 HN0
      go_upto_region 25 with (fail)
      generalize w6.alloc (.cells #[] 88) = w7 at *
      generalize w6.heap.size = b6 at *
      go_upto_region 26 with (at_builtin; refine wpList_append_nd rfl _ _ rfl b6 _ [] rfl O0.out _ xs rfl HN.out (by simp; omega) HZ7.out ?_)
      intro v8 w8 ho8 hb8 hz8 hg8
      have O8 := Lib.hid (show ON w8 b6 v8 xs from ho8)
      have R5 := Lib.hid (R4.out.grown hg8 (by have := HK6.out; simp [Value.ownBlock]; omega))
      have HB8 := Lib.hid (HB6.out.trans ((hb8 w7 (Below.refl _ _)).mono HZ6.out))
      have HZ8 := Lib.hid (Nat.le_trans HZ7.out hz8)
      clear ho8 hb8 hz8 hg8 O0 R4 HB6 HN HZ7
      go_upto_region 27 with (first
        | (refine wpList_load_nd rfl _ rfl _ (branchN vl ks) rfl (NdAt.ofRow R5.out) ?_)
        | (refine wpList_one_nd rfl _ rfl (branchN vl ks) rfl ?_)
        | (at_builtin; refine wpList_append_nd rfl _ _ rfl b6 _ xs rfl (O8.out.below ((Below.refl w8.heap.size w8).alloc (Nat.le_refl _) _) (Nat.le_refl _)) _ [branchN vl ks] rfl (RowE.lit encN (heap_alloc_new _ _) (branchN vl ks) rfl) (by simp; omega) (by have := HZ8.out; simp; omega) ?_))
      intro v9 w9 ho9 hb9 hz9 hg9
      have O9 := Lib.hid (OwnE.row encN ho9)
      have HB9 := Lib.hid (HB8.out.trans ((hb9 w8 ((Below.refl _ _).alloc HZ8.out _)).mono HZ6.out))
      have HA9 := Lib.hid (fun (b : Nat) (hb : b < w.heap.size) => show Apart v9 (xs ++ [branchN vl ks]) b from .inr fun e => by have := (World.ownsRow.lt ho9 b e).1; have := HZ6.out; omega)
      clear ho9 hb9 hz9 hg9 O8 R5 HB8
      obtain ⟨pz, cz, rfl, z1, z2⟩ := RowE.shape encN O9.out
      simp only [List.length_append, List.length_singleton] at *
      unfold maxLen at z2
      go_wp2
      refine bodyPost_ret (v := .tuple #[.slice pz (xs.length + 1) cz, .int .i64 xs.length]) (by simp [results, Try.results43, go_sem]) rfl ?_
      exact ⟨_, rfl, O9.out, HB9.out, fun b hb _ => HA9.out b hb⟩


theorem rlay_nil (v0 v1 : Value) (ns : List Nd) (w : World) (h0 : RN w v0 ns) (h1 : RP w v1 []) : Calls Try.prog 43 #[v0, v1] w (LayAns v0 ns (ns, -1) w) := by
  obtain ⟨pa, ca, rfl, a1, a2⟩ := RowE.shape encN h0
  obtain ⟨pb, cb, rfl, b1, b2⟩ := RowE.shape encP h1
  have H0 := Lib.hid h0
  clear h0 h1
  unfold maxLen at a2 b2
  simp only [List.length_nil] at *
  go_enter Try.func43, Try.ntmps43
  go_wp2
  refine bodyPost_ret (v := .tuple #[.slice pa ns.length ca, .int .i64 (-1)]) (by simp [results, Try.results43, go_sem]) rfl ?_
  exact ⟨_, rfl, H0.out, Below.refl _ _, fun k _ h => h⟩

theorem cutC_small {f c : Nat} {l : List Pr} (hl : ∀ p ∈ l, p.1.length < f + 1) : ∀ p ∈ cutC c l, p.1.length < f := by
  intro p hp
  unfold cutC cutK at hp
  obtain ⟨q, hq, rfl⟩ := List.mem_map.1 hp
  obtain ⟨hm, hs⟩ := List.mem_filter.1 hq
  obtain ⟨x, r, e, _⟩ := hasC_some hs
  have := hl q hm
  rw [e] at this
  rw [e]
  simp at this ⊢
  omega
theorem kidsF_range (f : Nat) (l : List Pr) (ns : List Nd) (c : Nat) : kidsF f l (List.range (c + 1)) (ns, []) = ((layF f (cutC c l) (kidsF f l (List.range c) (ns, [])).1).1, (kidsF f l (List.range c) (ns, [])).2 ++ [(layF f (cutC c l) (kidsF f l (List.range c) (ns, [])).1).2]) := by
  unfold kidsF
  rw [List.range_succ, List.foldl_append]
  rfl
theorem kidsF_map (f : Nat) (l : List Pr) (ns : List Nd) : ∀ n, (kidsF f l (List.range n) (ns, [])).2 = (List.range n).map fun c => (layF f (cutC c l) (kidsF f l (List.range c) (ns, [])).1).2
  | 0 => rfl
  | n + 1 => by rw [kidsF_range, List.range_succ, List.map_append, kidsF_map f l ns n]; rfl
theorem kidsF_len (f : Nat) (l : List Pr) (ns : List Nd) : ∀ n, (kidsF f l (List.range n) (ns, [])).1.length ≤ ns.length + f * ((List.range n).map fun c => (cutC c l).length).sum
  | 0 => by simp [kidsF]
  | n + 1 => by
    rw [kidsF_range, List.range_succ, List.map_append, List.sum_append]
    have h1 := kidsF_len f l ns n
    have h2 := layF_len f (cutC n l) (kidsF f l (List.range n) (ns, [])).1
    simp only [List.map_cons, List.map_nil, List.sum_cons, List.sum_nil, Nat.add_zero, Nat.mul_add]
    omega
theorem cutC_sum (l : List Pr) (n : Nat) : ((List.range n).map fun c => (cutC c l).length).sum ≤ l.length := by
  have h17 := filter_sum headN (n + 1) l
  rw [List.range_succ_eq_map, List.map_cons, List.sum_cons, List.map_map] at h17
  have e2 : (List.range n).map (fun c => (cutC c l).length) = (List.range n).map ((fun c => (l.filter (fun a => headN a == c)).length) ∘ Nat.succ) := List.map_congr_left fun c _ => cutC_len c _
  rw [e2]
  omega
theorem rlay_all : ∀ f : Nat, f ≤ 1000 → LayC f
  | 0, _ => fun l ns v0 v1 w h0 h1 hf _ _ => by
    cases l with
    | nil => exact rlay_nil v0 v1 ns w h0 h1
    | cons p l => exact absurd (hf p List.mem_cons_self) (by omega)
  | f + 1, hf1 => fun l ns v0 v1 w h0 h1 hf hl hn => by
    have ih := rlay_all f (by omega)
    match l, h1, hf, hl, hn with
    | [], h1, _, _, _ => exact rlay_nil v0 v1 ns w h0 h1
    | [p], h1, hf, hl, hn =>
      rw [layF_one]
      exact rlay_leaf p ns v0 v1 w h0 h1 (by have := hf p List.mem_cons_self; omega) (by omega)
    | p :: q :: r, h1, hf, hl, hn =>
      by_cases hc : 0 < commonL (p :: q :: r)
      · rw [layF_joint hc]
        have hln : (cutK (commonL (p :: q :: r)) (p :: q :: r)).length = (p :: q :: r).length := List.length_map _
        have hle := layF_len f (cutK (commonL (p :: q :: r)) (p :: q :: r)) ns
        rw [hln] at hle
        rw [Nat.add_mul] at hn
        refine rlay_joint p (q :: r) ns _ (commonL (p :: q :: r)) _ v0 v1 w rfl hc (by simp) h0 h1 (fun x hx => by have := hf x hx; omega) hl (by omega) ?_
        intro W u0 u1 k0 k1
        refine ih _ ns u0 u1 W k0 k1 ?_ (by rw [hln]; exact hl) (by rw [hln]; omega)
        intro x hx
        obtain ⟨y, hy, rfl⟩ := List.mem_map.1 hx
        have h1 := hf y hy
        have h2 := (common_take y hy).2
        show (y.1.drop _).length < f
        rw [List.length_drop]
        omega
      · rw [layF_branch hc, kidsF_map]
        have hs := cutC_sum (p :: q :: r)
        have hkl := kidsF_len f (p :: q :: r) ns
        rw [Nat.add_mul] at hn
        have hall : ∀ c, f * ((List.range c).map fun c => (cutC c (p :: q :: r)).length).sum ≤ f * (p :: q :: r).length := fun c => Nat.mul_le_mul_left f (hs c)
        refine rlay_branch p (q :: r) (fun c => (kidsF f (p :: q :: r) (List.range c) (ns, [])).1) _ v0 v1 w (by omega) (by simp) h0 h1 (fun x hx => by have := hf x hx; omega) hl (by have := hkl 16; have := hall 16; omega) ?_
        intro c hc16 W u0 u1 k0 k1
        have hlc : (cutC c (p :: q :: r)).length ≤ (p :: q :: r).length := by rw [cutC_len]; exact List.length_filter_le _ _
        have h3 := hs (c + 1)
        rw [List.range_succ, List.map_append, List.sum_append] at h3
        simp only [List.map_cons, List.map_nil, List.sum_cons, List.sum_nil, Nat.add_zero] at h3
        have h4 := Nat.mul_le_mul_left f h3
        rw [Nat.mul_add] at h4
        have h5 := hkl c
        have := ih (cutC c (p :: q :: r)) (kidsF f (p :: q :: r) (List.range c) (ns, [])).1 u0 u1 W k0 k1 (cutC_small hf) (by omega) (by omega)
        rw [kidsF_range]
        exact this
end Go.Proofs.Ytefmlbckbhlgdaa
namespace Go.Proofs.Ytefmlbckbhlgdaa
open Go.RowKit
set_option maxRecDepth 100000
theorem RN.zero (w : World) (a : Addr) : RN w (.slice (some a) 0 0) [] := .inr ⟨a, 0, rfl, Nat.le_refl _, by unfold maxLen; omega, fun j u hj => by simp [flat] at hj⟩
set_option maxHeartbeats 4000000 in
theorem rOf_any (l : List Pr) (v : Value) (w : World) (h : RP w v l) (hl : l.length ≤ 1000) (hz : ∀ p ∈ l, p.1.length ≤ 64) :
    Calls Try.prog 18 #[v] w fun e w' => ∃ u, e = .returned (.agg #[u, .int .i64 (ofT l).2]) ∧ RN w' u (ofT l).1 ∧ Below w.heap.size w w' := by
  have hpl : (partsL l).length = l.length := List.length_map _
  have hpz : ∀ p ∈ partsL l, p.1.length < 200 := fun p hp => by
    obtain ⟨q, hq, rfl⟩ := List.mem_map.1 hp
    have := hz q hq
    show (ofL q.1).length < 200
    rw [ofL_length]; omega
  have KP := Lib.hid (fun W (hb : Below w.heap.size w W) => rparts_any v l W (RP.below h hb (Nat.le_refl _)) (by omega) (fun p hp => by have := hz p hp; omega))
  have KL := Lib.hid (fun W v0 v1 (h0 : RN W v0 []) (h1 : RP W v1 (partsL l)) => rlay_all 200 (by omega) (partsL l) [] v0 v1 W h0 h1 hpz (by omega) (by rw [hpl]; simp; omega))
  replace KL : Hid (∀ W v0 v1, RN W v0 [] → RP W v1 (partsL l) → Calls Try.prog 43 #[v0, v1] W (LayAns v0 [] (ofT l) W)) := KL
  generalize ofT l = tr at *
  obtain ⟨ns, ix⟩ := tr
  obtain ⟨pv, cv, rfl, z1, z2⟩ := RowE.shape encP h
  clear h hl hz hpl hpz
  have HB := Lib.hid (((Below.refl w.heap.size w).alloc (Nat.le_refl _) (.cells #[.slice none 0 0, .int .i64 0] 37)).alloc (by simp) (.cells #[] 88))
  have R := Lib.hid ((RowAt.new w #[.slice none 0 0, .int .i64 0] 37).alloc (.cells #[] 88))
  go_enter Try.func18, Try.ntmps18
  go_upto_region 2 with (first
    | (go_at_call 44; (with_reducible refine (KP.out _ HB.out).mono ?_); rintro e w2 ⟨v2, rfl, hr, hb⟩; have H2 := Lib.hid hr; clear hr KP; (replace R := Lib.hid (R.out.belowS hb); replace HB := Lib.hid (HB.out.trans (hb.mono HB.out.size)); clear hb))
    | (go_at_call 43; (with_reducible refine (KL.out w2 _ v2 (RN.zero _ _) H2.out).mono ?_); rintro e w3 ⟨v3, rfl, hr, hb, hap⟩; have H3 := Lib.hid hr; have HA := Lib.hid (hap w.heap.size R.out.lt (.inl rfl)); clear hr hap H2 KL; (replace R := Lib.hid (R.out.belowS hb); replace HB := Lib.hid (HB.out.trans (hb.mono HB.out.size)); clear hb)))
  obtain ⟨p3, c3, rfl, z3, z4⟩ := RowE.shape encN H3.out
  obtain ⟨y0, y1, yf0, yf1⟩ := R.out.c2
  have R1 := R.out.set 0 (.slice p3 ns.length c3) (cs' := #[.slice p3 ns.length c3, .int .i64 0]) rfl
  obtain ⟨m0, m1, -, -⟩ := (R1.set 1 (.int .i64 ix) (cs' := #[.slice p3 ns.length c3, .int .i64 ix]) rfl).c2
  clear R1
  have HB1 := Lib.hid ((HB.out.setCell (p := ⟨w.heap.size, 0, none⟩) (Nat.le_refl _) (.slice p3 ns.length c3)).setCell (p := ⟨w.heap.size, 1, none⟩) (Nat.le_refl _) (.int .i64 ix))
  have H4 := Lib.hid ((H3.out.set (HA.out) 0 (.slice p3 ns.length c3)).set HA.out 1 (.int .i64 ix))
  go_wp2
  refine bodyPost_ret (v := .agg #[.slice p3 ns.length c3, .int .i64 ix]) (by simp [results, Try.results18, go_sem, m0, m1]) rfl ?_
  exact ⟨_, rfl, H4.out, HB1.out⟩
end Go.Proofs.Ytefmlbckbhlgdaa
namespace Go.Proofs.Ytefmlbckbhlgdaa
open Go.RowKit Go.Shelf
set_option maxRecDepth 100000
def ndEq (a b : Nd) : Bool := (a.kind == b.kind) && (decide (a.part = b.part) && (decide (a.value = b.value) && (List.range 16).all fun i => a.kids.getD i 0 == b.kids.getD i 0))
theorem ndEq_iff {a b : Nd} (ha : a.kids.length = 16) (hb : b.kids.length = 16) : ndEq a b = true ↔ a = b := by
  obtain ⟨k, p, v, ks⟩ := a
  obtain ⟨k', p', v', ks'⟩ := b
  simp only at ha hb
  unfold ndEq
  simp only [Bool.and_eq_true, beq_iff_eq, decide_eq_true_eq, List.all_eq_true, List.mem_range, Nd.mk.injEq]
  refine and_congr Iff.rfl (and_congr Iff.rfl (and_congr Iff.rfl ⟨fun h => ?_, fun h => by subst h; exact fun _ _ => rfl⟩))
  apply List.ext_getElem?
  intro i
  by_cases hi : i < 16
  · have := h i hi
    rw [List.getD_eq_getElem?_getD, List.getD_eq_getElem?_getD] at this
    rw [List.getElem?_eq_getElem (by omega), List.getElem?_eq_getElem (by omega)] at this ⊢
    simpa using this
  · rw [List.getElem?_eq_none (by omega), List.getElem?_eq_none (by omega)]

theorem eqItems_int (d : Nat) (xs ys : Array Value) (f g : Nat → Int) (w : World) : ∀ is : List Nat, (∀ i ∈ is, xs[i]? = some (.int .i64 (f i)) ∧ ys[i]? = some (.int .i64 (g i))) →
    (Op.eqItems (d + 1) 3 1 xs ys is).run Try.prog w = .ok (is.all fun i => f i == g i) w
  | [], _ => rfl
  | i :: is, h => by
    obtain ⟨h1, h2⟩ := h i List.mem_cons_self
    have hg : Try.prog.underlying 3 = some (.int .i64) := by kernel_rfl
    have hp : ∀ (xs : Array Value) (v : Value) (w : World), xs[i]? = some v → (part 3 xs i).run Try.prog w = .ok v w := fun xs v w h => by simp [part, go_sem, h]
    have ih := eqItems_int d xs ys f g w is fun j hj => h j (List.mem_cons_of_mem _ hj)
    simp only [Op.eqItems, Nat.mul_one, Sem.run_bind, hp _ _ _ h1, hp _ _ _ h2, Result.andThen_ok, run_equalIn_int w d _ _ _ _ _ hg, List.all_cons]
    cases (f i == g i)
    · simp
    · simp [ih]
theorem ndc_kidAt (n : Nd) (i : Nat) (hi : i < 16) : (ndc n)[3 + i]? = some (kidV n i) := by
  have : i = 0 ∨ i = 1 ∨ i = 2 ∨ i = 3 ∨ i = 4 ∨ i = 5 ∨ i = 6 ∨ i = 7 ∨ i = 8 ∨ i = 9 ∨ i = 10 ∨ i = 11 ∨ i = 12 ∨ i = 13 ∨ i = 14 ∨ i = 15 := by omega
  rcases this with rfl | rfl | rfl | rfl | rfl | rfl | rfl | rfl | rfl | rfl | rfl | rfl | rfl | rfl | rfl | rfl <;> rfl
theorem ndc_kidE (n : Nd) (i : Nat) (hi : i < 16) : ((ndc n).extract 3 (3 + 16))[i]? = some (.int .i64 (n.kids.getD i 0)) := by
  rw [Array.getElem?_extract, if_pos (by rw [ndc_size]; omega), ndc_kidAt n i hi]
  rfl
theorem eqNd_run (a b : Nd) (w : World) : (Op.equalIn 10000 88 (.agg (ndc a)) (.agg (ndc b))).run Try.prog w = .ok (ndEq a b) w := by
  rw [run_equalIn_struct w 9999 88 _ _ (by kernel_rfl) (by kernel_rfl)]
  have hf : (Try.prog.fieldsOf 88).toList.map (fun f => (f.name, f.type, f.offset)) = [("Kind", 3, 0), ("Part", 9, 1), ("Value", 9, 2), ("Kids", 86, 3)] := by kernel_rfl
  generalize (Try.prog.fieldsOf 88).toList = fl at hf ⊢
  have hl3 : fl.length = 4 := by have := congrArg List.length hf; simpa using this
  obtain ⟨f0, f1, f2, f3, rfl⟩ : ∃ f0 f1 f2 f3, fl = [f0, f1, f2, f3] := by
    match fl, hl3 with
    | [a, b, c, d], _ => exact ⟨a, b, c, d, rfl⟩
  simp only [List.map_cons, List.map_nil, List.cons.injEq, Prod.mk.injEq, and_true] at hf
  obtain ⟨e0, e1, e2, e3⟩ := hf
  have hgi : Try.prog.underlying 3 = some (.int .i64) := by kernel_rfl
  have hgs : Try.prog.underlying 9 = some .string := by kernel_rfl
  have hga : Try.prog.underlying 86 = some (.array 16 3) := by kernel_rfl
  have hci : Try.prog.cellsOf 3 = 1 := by kernel_rfl
  have hii : (Try.prog.info? 3).map (fun i => i.size) = some 1 := by kernel_rfl
  obtain ⟨i0, hi0, _⟩ := Option.map_eq_some_iff.1 hii
  have pI : ∀ (xs : Array Value) (k : Nat) (v : Value) (w : World), xs[k]? = some v → (part 3 xs k).run Try.prog w = .ok v w := fun xs k v w h => by simp [part, go_sem, h]
  have pS : ∀ (xs : Array Value) (k : Nat) (v : Value) (w : World), xs[k]? = some v → (part 9 xs k).run Try.prog w = .ok v w := fun xs k v w h => by simp [part, go_sem, h]
  have pK : ∀ (xs : Array Value) (k : Nat) (w : World), (part 86 xs k).run Try.prog w = .ok (.agg (xs.extract k (k + 16))) w := fun xs k w => by
    have hc : Try.prog.cellsOf 86 = 16 := by kernel_rfl
    have hi : (Try.prog.info? 86).map (fun i => i.size) = some 16 := by kernel_rfl
    obtain ⟨i, hi, _⟩ := Option.map_eq_some_iff.1 hi
    have hs : (sizeOf 86).run Try.prog w = .ok 16 w := by rw [run_sizeOf w hi, hc]
    simp [part, go_sem]
  have hI : ∀ (x y : Int) w, (Op.equalIn 9999 3 (.int .i64 x) (.int .i64 y)).run Try.prog w = .ok (x == y) w := fun x y w => run_equalIn_int w 9998 _ _ _ _ _ hgi
  have hS : ∀ (x y : List UInt8) w, (Op.equalIn 9999 9 (.string (mkS x)) (.string (mkS y))).run Try.prog w = .ok (decide (x = y)) w := fun x y w => by rw [run_equalIn_string w 9998 _ _ _ hgs, mkS_beq]
  have hK : ∀ w, (Op.equalIn 9999 86 (.agg ((ndc a).extract 3 (3 + 16))) (.agg ((ndc b).extract 3 (3 + 16)))).run Try.prog w = .ok ((List.range 16).all fun i => a.kids.getD i 0 == b.kids.getD i 0) w := fun w => by
    rw [run_equalIn_array w 9998 (n := 16) (e := 3) _ _ hga hi0, hci]
    refine eqItems_int 9997 _ _ (fun i => a.kids.getD i 0) (fun i => b.kids.getD i 0) w _ fun i hi => ?_
    have hi := List.mem_range.1 hi
    exact ⟨ndc_kidE a i hi, ndc_kidE b i hi⟩
  unfold ndEq
  simp only [Op.eqFields, e0.1, e1.1, e2.1, e3.1, e0.2.1, e1.2.1, e2.2.1, e3.2.1, e0.2.2, e1.2.2, e2.2.2, e3.2.2]
  rw [if_pos (by decide)]
  simp only [Sem.run_bind, pI (ndc a) 0 (.int .i64 a.kind) _ rfl, pI (ndc b) 0 (.int .i64 b.kind) _ rfl, Result.andThen_ok]
  rw [hI]
  simp only [Result.andThen_ok]
  cases (a.kind == b.kind)
  · simp
  simp only [Bool.not_true, Bool.false_eq_true, if_false, Bool.true_and]
  rw [if_pos (by decide)]
  simp only [Sem.run_bind, pS (ndc a) 1 (.string (mkS a.part)) _ rfl, pS (ndc b) 1 (.string (mkS b.part)) _ rfl, Result.andThen_ok]
  rw [hS]
  simp only [Result.andThen_ok]
  cases decide (a.part = b.part)
  · simp
  simp only [Bool.not_true, Bool.false_eq_true, if_false, Bool.true_and]
  rw [if_pos (by decide)]
  simp only [Sem.run_bind, pS (ndc a) 2 (.string (mkS a.value)) _ rfl, pS (ndc b) 2 (.string (mkS b.value)) _ rfl, Result.andThen_ok]
  rw [hS]
  simp only [Result.andThen_ok]
  cases decide (a.value = b.value)
  · simp
  simp only [Bool.not_true, Bool.false_eq_true, if_false, Bool.true_and]
  rw [if_pos (by decide)]
  simp only [Sem.run_bind, pK, Result.andThen_ok]
  rw [hK]
  simp only [Result.andThen_ok]
  cases (List.range 16).all fun i => a.kids.getD i 0 == b.kids.getD i 0 <;> simp
end Go.Proofs.Ytefmlbckbhlgdaa
namespace Go.Proofs.Ytefmlbckbhlgdaa
open Go.RowKit Go.Shelf
set_option maxRecDepth 100000
def rowEq {α : Type} (f : α → α → Bool) : List α → List α → Bool
  | [], [] => true
  | x :: l, y :: m => f x y && rowEq f l m
  | _, _ => false
theorem rowEq_len {α : Type} {f : α → α → Bool} : ∀ {l m : List α}, l.length ≠ m.length → rowEq f l m = false
  | [], [], h => absurd rfl h
  | [], _ :: _, _ => rfl
  | _ :: _, [], _ => rfl
  | x :: l, y :: m, h => by rw [rowEq, rowEq_len (by simpa using h), Bool.and_false]
theorem rowEq_iff {α : Type} {f : α → α → Bool} : ∀ {l m : List α}, (∀ x ∈ l, ∀ y ∈ m, f x y = true ↔ x = y) → (rowEq f l m = true ↔ l = m)
  | [], [], _ => by simp [rowEq]
  | [], _ :: _, _ => by simp [rowEq]
  | _ :: _, [], _ => by simp [rowEq]
  | x :: l, y :: m, h => by
    rw [rowEq, Bool.and_eq_true, h x List.mem_cons_self y List.mem_cons_self, rowEq_iff fun a ha b hb => h a (List.mem_cons_of_mem _ ha) b (List.mem_cons_of_mem _ hb), List.cons.injEq]
theorem rowEq_drop {α : Type} {f : α → α → Bool} {l m : List α} {i : Nat} {x y : α} (hx : l[i]? = some x) (hy : m[i]? = some y) : rowEq f (l.drop i) (m.drop i) = (f x y && rowEq f (l.drop (i + 1)) (m.drop (i + 1))) := by
  obtain ⟨h1, e1⟩ := List.getElem?_eq_some_iff.1 hx
  obtain ⟨h2, e2⟩ := List.getElem?_eq_some_iff.1 hy
  rw [List.drop_eq_getElem_cons h1, List.drop_eq_getElem_cons h2, e1, e2, rowEq]

theorem xr_load_nd {ops : Array Oper} {C : World → Prop} {Q : Act → Prop} {a : Act} {i : Nat} {is : List Nat} (o : Oper) (hi : ops[i]? = some o) (hgd : o.guard = none) (x : Operand) (ho : o.op = .load 88 x)
    (ad : Addr) (n : Nd) (hx : a.eval x = .pointer (some ad)) (hn : ∀ u : InC C, NdAt u.w ad n) (h : wpXR Try.prog ops C Q is (a.put o.dst (.agg (ndc n)))) : wpXR Try.prog ops C Q (i :: is) a := by
  obtain ⟨fs, hu⟩ := und_nd
  refine xr_step ⟨o, hi, fun K hK => ?_⟩
  unfold Region.wanted
  rw [hgd]
  simp only [if_true]
  refine ⟨.agg (ndc n), fun u => ?_, hK _ h⟩
  unfold Oper.quietAt execOp
  simp only [ho, hx, Instr.loadAt, Instr.sureAddr, Sem.run_bind, Sem.run_pure, Result.andThen_ok, run_loadVar_at u.w _ ad (ndc n) _ (hn u) hu rfl (size_nd n)]
  exact ⟨rfl, rfl⟩

def likeT (la : List Nd) (ra : Int) (lb : List Nd) (rb : Int) : Bool := (ra == rb) && rowEq ndEq la lb

theorem bel2T (w : World) (A B : Obj) : Below w.heap.size w ((w.alloc A).alloc B) := ((Below.refl _ _).alloc (Nat.le_refl _) _).alloc (by simp) _
set_option maxHeartbeats 4000000 in
theorem rlike_any (la lb : List Nd) (ra rb : Int) (sa sb : Value) (w : World) (ha : RN w sa la) (hb : RN w sb lb) :
    Calls Try.prog 17 #[.agg #[sa, .int .i64 ra], .agg #[sb, .int .i64 rb]] w fun e w' => e = .returned (.bool (likeT la ra lb rb)) ∧ Below w.heap.size w w' := by
  obtain ⟨pa, ca, rfl, a1, a2⟩ := RowE.shape encN ha
  obtain ⟨pb, cb, rfl, b1, b2⟩ := RowE.shape encN hb
  have H1 := Lib.hid ha
  have H2 := Lib.hid hb
  clear ha hb
  unfold maxLen at a2 b2
  have HL := Lib.hid (show likeT la ra lb rb = ((ra == rb) && rowEq ndEq la lb) from rfl)
  generalize likeT la ra lb rb = R at *
  generalize hna : la.length = na at *
  generalize hnb : lb.length = nb at *
  replace hna := Lib.hid hna
  replace hnb := Lib.hid hnb
  have R1 := Lib.hid ((RowAt.new w #[.slice pa na ca, .int .i64 ra] 37).alloc (.cells #[.slice pb nb cb, .int .i64 rb] 37))
  have R2 := Lib.hid (RowAt.new' (w.alloc (.cells #[.slice pa na ca, .int .i64 ra] 37)) #[.slice pb nb cb, .int .i64 rb] 37 (k := w.heap.size + 1) (by simp))
  have HB := Lib.hid (bel2T w (.cells #[.slice pa na ca, .int .i64 ra] 37) (.cells #[.slice pb nb cb, .int .i64 rb] 37))
  obtain ⟨x0, x1, xf0, xf1⟩ := R1.out.c2
  obtain ⟨y0, y1, yf0, yf1⟩ := R2.out.c2
  by_cases e : ra = rb
  · have q : (ra != rb) = false := by simp [e]
    have q' : (ra == rb) = true := by simp [e]
    clear e
    rw [q', Bool.true_and] at HL
    clear q'
    by_cases l1 : na = nb
    · subst l1
      have HD : Hid (rowEq ndEq (la.drop 0) (lb.drop 0) = R) := Lib.hid HL.out.symm
      clear HL
      go_enter Try.func17, Try.ntmps17
      go_upto_region 4 with (fail)
      clear x0 x1 xf0 xf1 y0 y1 yf0 yf1 q
      generalize (w.alloc (.cells #[.slice pa na ca, .int .i64 ra] 37)).alloc (.cells #[.slice pb na cb, .int .i64 rb] 37) = W0 at *
      go_loopw [23] (fun s wr => ∃ i : Nat, i ≤ na ∧ s = .int .i64 i ∧ Hid (rowEq ndEq (la.drop i) (lb.drop i) = R) ∧ Hid (Below W0.heap.size W0 wr)) (fun s _ => na - (intOf s).toNat)
      case atStart => exact ⟨0, Nat.zero_le _, rfl, HD, Lib.hid (Below.refl _ _)⟩
      case round =>
        clear HD
        obtain ⟨i, hi, rfl, hd, hbw⟩ := hrel
        have HD := Lib.hid hd.out
        have HBW := Lib.hid hbw.out
        clear hd hbw
        by_cases hlt : i < na
        · obtain ⟨x, hx⟩ : ∃ x, la[i]? = some x := ⟨_, List.getElem?_eq_getElem (by rw [hna.out]; exact hlt)⟩
          obtain ⟨y, hy⟩ : ∃ y, lb[i]? = some y := ⟨_, List.getElem?_eq_getElem (by rw [hnb.out]; exact hlt)⟩
          have hdr := HD.out
          rw [rowEq_drop hx hy] at hdr
          obtain ⟨a, rfl, n1⟩ := NdAt.ofRowE H1.out hx
          obtain ⟨b, rfl, n2⟩ := NdAt.ofRowE H2.out hy
          replace n1 := Lib.hid (fun u : InC (LaterC wr.drew) => (n1.below (HB.out.trans ((HBW.out.drew.trans (u.below.mono HBW.out.drew.size)).mono HB.out.size)) (Nat.le_refl _)))
          replace n2 := Lib.hid (fun u : InC (LaterC wr.drew) => (n2.below (HB.out.trans ((HBW.out.drew.trans (u.below.mono HBW.out.drew.size)).mono HB.out.size)) (Nat.le_refl _)))
          have p1 := (R1.out.belowS HBW.out).drew.ic2.1
          have p2 := (R2.out.belowS HBW.out).drew.ic2.1
          have hq := fun w => eqNd_run x y w
          clear hx hy HD
          cases he : ndEq x y
          · rw [he] at hq hdr
            have hr := Lib.hid (show R = false by rw [← hdr]; rfl)
            clear hdr he
            go_upto_region 6 with (fail)
            (refine region_order [0, 1, 2, 3, 4, 5, 6, 7, 8, 9] [] 10 (LaterC wr.drew) mix ?hB ?hC ?_; case hB => kernel_rfl); (case hC => exact Below.refl _ _)
            iterate 4 ((with_reducible refine xr_step ?_); (refine ⟨_, rfl, ?_⟩); intro K hK; go_simp; (with_reducible refine hK _ ?_); clear hK K)
            refine xr_load_nd _ rfl rfl _ rfl _ x rfl n1.out ?_
            iterate 4 ((with_reducible refine xr_step ?_); (refine ⟨_, rfl, ?_⟩); intro K hK; go_simp; (with_reducible refine hK _ ?_); clear hK K)
            refine xr_load_nd _ rfl rfl _ rfl _ y rfl n2.out ?_
            with_reducible refine xr_nil ?_
            with_reducible refine xe_nil ?_
            simp only [List.drop_succ_cons, List.drop_zero]
            clear p1 p2
            go_wp2
            go_ret
            rw [hr.out]
            exact ⟨rfl, HB.out.trans (HBW.out.drew.mono HB.out.size)⟩
          · rw [he] at hq hdr
            have hd := Lib.hid (show rowEq ndEq (la.drop (i + 1)) (lb.drop (i + 1)) = R by rw [← hdr]; rfl)
            clear hdr he
            go_upto_region 6 with (fail)
            (refine region_order [0, 1, 2, 3, 4, 5, 6, 7, 8, 9] [] 10 (LaterC wr.drew) mix ?hB ?hC ?_; case hB => kernel_rfl); (case hC => exact Below.refl _ _)
            iterate 4 ((with_reducible refine xr_step ?_); (refine ⟨_, rfl, ?_⟩); intro K hK; go_simp; (with_reducible refine hK _ ?_); clear hK K)
            refine xr_load_nd _ rfl rfl _ rfl _ x rfl n1.out ?_
            iterate 4 ((with_reducible refine xr_step ?_); (refine ⟨_, rfl, ?_⟩); intro K hK; go_simp; (with_reducible refine hK _ ?_); clear hK K)
            refine xr_load_nd _ rfl rfl _ rfl _ y rfl n2.out ?_
            with_reducible refine xr_nil ?_
            with_reducible refine xe_nil ?_
            simp only [List.drop_succ_cons, List.drop_zero]
            clear p1 p2
            go_wp2
            exact ⟨⟨i + 1, by omega, by simp, hd, Lib.hid HBW.out.drew⟩, by simp [intOf]; omega⟩
        · have hd := HD.out
          rw [List.drop_eq_nil_of_le (by rw [hna.out]; omega), List.drop_eq_nil_of_le (by rw [hnb.out]; omega)] at hd
          have hr := Lib.hid (show R = true from hd.symm)
          clear hd
          go_wp2
          go_ret
          rw [hr.out]
          exact ⟨rfl, HB.out.trans (HBW.out.mono HB.out.size)⟩
    · have hr := Lib.hid (show R = false by rw [HL.out]; exact rowEq_len (by rw [hna.out, hnb.out]; exact l1))
      have q2 : ((na : Int) != (nb : Int)) = true := bne_iff_ne.2 (by omega)
      clear HL
      go_enter Try.func17, Try.ntmps17
      go_wp2
      go_ret
      rw [hr.out]
      exact ⟨rfl, HB.out⟩
  · have q : (ra != rb) = true := bne_iff_ne.2 e
    have q' : (ra == rb) = false := by simp [e]
    rw [q', Bool.false_and] at HL
    clear q' e
    go_enter Try.func17, Try.ntmps17
    go_wp2
    go_ret
    rw [HL.out]
    exact ⟨rfl, HB.out⟩
end Go.Proofs.Ytefmlbckbhlgdaa
namespace Go.Proofs.Ytefmlbckbhlgdaa
open Go.RowKit Go.Shelf
set_option maxRecDepth 100000
set_option maxHeartbeats 4000000 in
theorem equalN_any (la lb : List Nd) (sa sb : Value) (w : World) (ha : RN w sa la) (hb : RN w sb lb) :
    Calls Try.prog 123 #[sa, sb] w fun e w' => e = .returned (.bool (rowEq ndEq la lb)) ∧ Below w.heap.size w w' := by
  obtain ⟨pa, ca, rfl, a1, a2⟩ := RowE.shape encN ha
  obtain ⟨pb, cb, rfl, b1, b2⟩ := RowE.shape encN hb
  have H1 := Lib.hid ha
  have H2 := Lib.hid hb
  clear ha hb
  unfold maxLen at a2 b2
  have HL := Lib.hid (@rfl _ (rowEq ndEq la lb))
  generalize hR : rowEq ndEq la lb = R
  rw [hR] at HL
  generalize hna : la.length = na at *
  generalize hnb : lb.length = nb at *
  replace hna := Lib.hid hna
  replace hnb := Lib.hid hnb
  replace hR := Lib.hid hR
  clear HL
  by_cases l1 : na = nb
  · subst l1
    have HD : Hid (rowEq ndEq (la.drop 0) (lb.drop 0) = R) := Lib.hid hR.out
    clear hR
    go_enter Try.func123, Try.ntmps123
    go_upto_region 4 with (fail)
    go_loopw [13] (fun s wr => ∃ i : Nat, i ≤ na ∧ s = .int .i64 i ∧ Hid (rowEq ndEq (la.drop i) (lb.drop i) = R) ∧ Hid (Below w.heap.size w wr)) (fun s _ => na - (intOf s).toNat)
    case atStart => exact ⟨0, Nat.zero_le _, rfl, HD, Lib.hid (Below.refl _ _)⟩
    case round =>
      clear HD
      obtain ⟨i, hi, rfl, hd, hbw⟩ := hrel
      have HD := Lib.hid hd.out
      have HBW := Lib.hid hbw.out
      clear hd hbw
      by_cases hlt : i < na
      · obtain ⟨x, hx⟩ : ∃ x, la[i]? = some x := ⟨_, List.getElem?_eq_getElem (by rw [hna.out]; exact hlt)⟩
        obtain ⟨y, hy⟩ : ∃ y, lb[i]? = some y := ⟨_, List.getElem?_eq_getElem (by rw [hnb.out]; exact hlt)⟩
        have hdr := HD.out
        rw [rowEq_drop hx hy] at hdr
        obtain ⟨a, rfl, n1⟩ := NdAt.ofRowE H1.out hx
        obtain ⟨b, rfl, n2⟩ := NdAt.ofRowE H2.out hy
        replace n1 := Lib.hid (fun u : InC (LaterC wr.drew) => (n1.below (HBW.out.drew.trans (u.below.mono HBW.out.drew.size)) (Nat.le_refl _)))
        replace n2 := Lib.hid (fun u : InC (LaterC wr.drew) => (n2.below (HBW.out.drew.trans (u.below.mono HBW.out.drew.size)) (Nat.le_refl _)))
        have hq := fun w => eqNd_run x y w
        clear hx hy HD
        cases he : ndEq x y
        · rw [he] at hq hdr
          have hr := Lib.hid (show R = false by rw [← hdr]; rfl)
          clear hdr he
          go_upto_region 6 with (fail)
          (refine region_order [0, 1, 2, 3, 4, 5, 6, 7] [] 8 (LaterC wr.drew) mix ?hB ?hC ?_; case hB => kernel_rfl); (case hC => exact Below.refl _ _)
          iterate 3 ((with_reducible refine xr_step ?_); (refine ⟨_, rfl, ?_⟩); intro K hK; go_simp; (with_reducible refine hK _ ?_); clear hK K)
          refine xr_load_nd _ rfl rfl _ rfl _ x rfl n1.out ?_
          iterate 3 ((with_reducible refine xr_step ?_); (refine ⟨_, rfl, ?_⟩); intro K hK; go_simp; (with_reducible refine hK _ ?_); clear hK K)
          refine xr_load_nd _ rfl rfl _ rfl _ y rfl n2.out ?_
          with_reducible refine xr_nil ?_
          with_reducible refine xe_nil ?_
          simp only [List.drop_succ_cons, List.drop_zero]
          go_wp2
          go_ret
          rw [hr.out]
          exact ⟨rfl, HBW.out.drew⟩
        · rw [he] at hq hdr
          have hd := Lib.hid (show rowEq ndEq (la.drop (i + 1)) (lb.drop (i + 1)) = R by rw [← hdr]; rfl)
          clear hdr he
          go_upto_region 6 with (fail)
          (refine region_order [0, 1, 2, 3, 4, 5, 6, 7] [] 8 (LaterC wr.drew) mix ?hB ?hC ?_; case hB => kernel_rfl); (case hC => exact Below.refl _ _)
          iterate 3 ((with_reducible refine xr_step ?_); (refine ⟨_, rfl, ?_⟩); intro K hK; go_simp; (with_reducible refine hK _ ?_); clear hK K)
          refine xr_load_nd _ rfl rfl _ rfl _ x rfl n1.out ?_
          iterate 3 ((with_reducible refine xr_step ?_); (refine ⟨_, rfl, ?_⟩); intro K hK; go_simp; (with_reducible refine hK _ ?_); clear hK K)
          refine xr_load_nd _ rfl rfl _ rfl _ y rfl n2.out ?_
          with_reducible refine xr_nil ?_
          with_reducible refine xe_nil ?_
          simp only [List.drop_succ_cons, List.drop_zero]
          go_wp2
          exact ⟨⟨i + 1, by omega, by simp, hd, Lib.hid HBW.out.drew⟩, by simp [intOf]; omega⟩
      · have hd := HD.out
        rw [List.drop_eq_nil_of_le (by rw [hna.out]; omega), List.drop_eq_nil_of_le (by rw [hnb.out]; omega)] at hd
        have hr := Lib.hid (show R = true from hd.symm)
        clear hd
        go_wp2
        go_ret
        rw [hr.out]
        exact ⟨rfl, HBW.out⟩
  · have hr := Lib.hid (show R = false by rw [← hR.out]; exact rowEq_len (by rw [hna.out, hnb.out]; exact l1))
    have q2 : ((na : Int) != (nb : Int)) = true := bne_iff_ne.2 (by omega)
    clear hR
    go_enter Try.func123, Try.ntmps123
    go_wp2
    go_ret
    rw [hr.out]
    exact ⟨rfl, Below.refl _ _⟩

set_option maxHeartbeats 4000000 in
theorem same_any (la lb : List Nd) (ra rb : Int) (sa sb : Value) (w : World) (ha : RN w sa la) (hb : RN w sb lb) :
    Calls Try.prog 71 #[.agg #[sa, .int .i64 ra], .agg #[sb, .int .i64 rb]] w fun e w' => e = .returned (.bool (likeT la ra lb rb)) ∧ Below w.heap.size w w' := by
  have KE := Lib.hid (fun W (hb2 : Below w.heap.size w W) => equalN_any la lb sa sb W (ha.below hb2 (Nat.le_refl _)) (hb.below hb2 (Nat.le_refl _)))
  obtain ⟨pa, ca, rfl, a1, a2⟩ := RowE.shape encN ha
  obtain ⟨pb, cb, rfl, b1, b2⟩ := RowE.shape encN hb
  clear ha hb
  have HL := Lib.hid (show likeT la ra lb rb = ((ra == rb) && rowEq ndEq la lb) from rfl)
  generalize likeT la ra lb rb = R at *
  have R1 := Lib.hid ((RowAt.new w #[.slice pa la.length ca, .int .i64 ra] 37).alloc (.cells #[.slice pb lb.length cb, .int .i64 rb] 37))
  have R2 := Lib.hid (RowAt.new' (w.alloc (.cells #[.slice pa la.length ca, .int .i64 ra] 37)) #[.slice pb lb.length cb, .int .i64 rb] 37 (k := w.heap.size + 1) (by simp))
  have HB := Lib.hid (bel2T w (.cells #[.slice pa la.length ca, .int .i64 ra] 37) (.cells #[.slice pb lb.length cb, .int .i64 rb] 37))
  obtain ⟨x0, x1, xf0, xf1⟩ := R1.out.c2
  obtain ⟨y0, y1, yf0, yf1⟩ := R2.out.c2
  by_cases e : ra = rb
  · have q' : (ra == rb) = true := by simp [e]
    clear e
    rw [q', Bool.true_and] at HL
    go_enter Try.func71, Try.ntmps71
    go_wp2_with (go_at_call 123; (with_reducible refine (KE.out _ HB.out).mono ?_); rintro e w2 ⟨rfl, hb⟩)
    go_ret
    rw [HL.out]
    exact ⟨rfl, HB.out.trans (hb.mono HB.out.size)⟩
  · have q' : (ra == rb) = false := by simp [e]
    rw [q', Bool.false_and] at HL
    clear e
    go_enter Try.func71, Try.ntmps71
    go_wp2
    go_ret
    rw [HL.out]
    exact ⟨rfl, HB.out⟩
end Go.Proofs.Ytefmlbckbhlgdaa
