/- The trie: Right, Pairs, Get. The trie: New, Put, Delete. The trie: Put and Delete that succeed. The trie: Delete; Put and Delete, all of them. Sums, in plain words: words, states of 25 words, what a round makes of them. Whole rows read and written in regions that draw their order. -/
import Derived.Laws.Bits64b
import Derived.Laws.CopyOwn
import Derived.Deep.DeepCutAuto
import Derived.Test.YtefmlbckbhlgdaaTm0
import Derived.Test.YtefmlbckbhlgdaaTm2
import Derived.Test.YtefmlbckbhlgdaaTm9
import Derived.Test.YtefmlbckbhlgdaaTm12
namespace Go.Proofs.Ytefmlbckbhlgdaa
open Go.RowKit Go.Shelf
set_option maxRecDepth 100000
/-- A trie as a value: its nodes lie where it says. -/
def TrA (w : World) (v : Value) (t : List Nd × Int) : Prop := ∃ u, v = .agg #[u, .int .i64 t.2] ∧ RN w u t.1
theorem TrA.below {w w' : World} {v : Value} {t : List Nd × Int} (h : TrA w v t) (hb : Below w.heap.size w w') : TrA w' v t := by
  obtain ⟨u, h1, h2⟩ := h
  exact ⟨u, h1, RN.below h2 hb (Nat.le_refl _)⟩
structure TOk (t : List Nd × Int) : Prop where
  ns : NsOk t.1
  root : t.2 ≤ 9223372036854775807
theorem pairsT_sort {t : List Nd × Int} (h : TOk t) (hp : (pairsT t).2 = true) : sortP (pairsT t).1 := (pairsT_true h.ns.kids hp).1.1

theorem trRight_any (t : List Nd × Int) (ht : TOk t) (v : Value) (w : World) (h : TrA w v t) : Calls Try.prog 19 #[v] w fun e w' => e = .returned (.bool (pairsT t).2) ∧ Below w.heap.size w w' := by
  obtain ⟨u, rfl, hu⟩ := h
  obtain ⟨ns, r⟩ := t
  simp only at hu
  obtain ⟨p, c, rfl, z1, z2⟩ := RowE.shape encN hu
  have HB := Lib.hid ((Below.refl w.heap.size w).alloc (Nat.le_refl _) (.cells #[.slice p ns.length c, .int .i64 r] 37))
  have KP := Lib.hid (fun W (hb : Below w.heap.size w W) => pairs_any ns ht.ns (.slice p ns.length c) r W ht.root (RN.below hu hb (Nat.le_refl _)))
  obtain ⟨x0, x1, -, -⟩ := (RowAt.new w #[.slice p ns.length c, .int .i64 r] 37).c2
  unfold PairsAns at KP
  generalize pairsT (ns, r) = x at *
  obtain ⟨l, b⟩ := x
  clear hu ht
  go_enter Try.func19, Try.ntmps19
  go_wp2_with (go_at_call 37; (with_reducible refine (KP.out _ HB.out).mono ?_); rintro e w2 ⟨v2, rfl, ho, hb⟩; obtain ⟨q, c2, rfl, -, -⟩ := OP.shape ho)
  go_ret
  exact ⟨rfl, HB.out.trans (hb.mono HB.out.size)⟩

theorem trPairs_any (t : List Nd × Int) (ht : TOk t) (v : Value) (w : World) (h : TrA w v t) : Calls Try.prog 20 #[v] w fun e w' => (∃ v', e = .returned (.tuple #[v', .int .i64 (if (pairsT t).2 then 0 else 1)]) ∧ RP w' v' (if (pairsT t).2 then (pairsT t).1 else [])) ∧ Below w.heap.size w w' := by
  obtain ⟨u, rfl, hu⟩ := h
  obtain ⟨ns, r⟩ := t
  simp only at hu
  obtain ⟨p, c, rfl, z1, z2⟩ := RowE.shape encN hu
  have HB := Lib.hid ((Below.refl w.heap.size w).alloc (Nat.le_refl _) (.cells #[.slice p ns.length c, .int .i64 r] 37))
  have KP := Lib.hid (fun W (hb : Below w.heap.size w W) => pairs_any ns ht.ns (.slice p ns.length c) r W ht.root (RN.below hu hb (Nat.le_refl _)))
  obtain ⟨x0, x1, -, -⟩ := (RowAt.new w #[.slice p ns.length c, .int .i64 r] 37).c2
  unfold PairsAns at KP
  generalize pairsT (ns, r) = x at *
  obtain ⟨l, b⟩ := x
  clear hu ht
  cases b
  · go_enter Try.func20, Try.ntmps20
    go_wp2_with (go_at_call 37; (with_reducible refine (KP.out _ HB.out).mono ?_); rintro e w2 ⟨v2, rfl, ho, hb⟩; obtain ⟨q, c2, rfl, -, -⟩ := OP.shape ho; have HB2 := Lib.hid (HB.out.trans (hb.mono HB.out.size)); clear ho hb)
    go_ret2
    exact ⟨⟨_, rfl, .inl ⟨rfl, rfl⟩⟩, HB2.out⟩
  · go_enter Try.func20, Try.ntmps20
    go_wp2_with (go_at_call 37; (with_reducible refine (KP.out _ HB.out).mono ?_); rintro e w2 ⟨v2, rfl, ho, hb⟩; obtain ⟨q, c2, rfl, -, -⟩ := OP.shape ho; have HO := Lib.hid ho; have HB2 := Lib.hid (HB.out.trans (hb.mono HB.out.size)); clear ho hb)
    go_ret2
    exact ⟨⟨_, rfl, OwnE.row encP HO.out⟩, HB2.out⟩

set_option maxHeartbeats 2000000 in
theorem trGet_any (t : List Nd × Int) (ht : TOk t) (k : List UInt8) (v : Value) (w : World) (h : TrA w v t) :
    Calls Try.prog 13 #[v, .string (mkS k)] w fun e w' => e = .returned (.tuple #[.string (mkS (if (pairsT t).2 then (getL k (pairsT t).1).getD [] else [])), .bool ((pairsT t).2 && (getL k (pairsT t).1).isSome)]) ∧ Below w.heap.size w w' := by
  obtain ⟨u, rfl, hu⟩ := h
  have hsrt := pairsT_sort ht
  have hlen : (pairsT t).2 = true → (pairsT t).1.length ≤ 64 := fun h => (pairsT_true ht.ns.kids h).1.2.2
  obtain ⟨ns, r⟩ := t
  simp only at hu
  obtain ⟨p, c, rfl, z1, z2⟩ := RowE.shape encN hu
  have HB := Lib.hid ((Below.refl w.heap.size w).alloc (Nat.le_refl _) (.cells #[.slice p ns.length c, .int .i64 r] 37))
  have KP := Lib.hid (fun W (hb : Below w.heap.size w W) => pairs_any ns ht.ns (.slice p ns.length c) r W ht.root (RN.below hu hb (Nat.le_refl _)))
  obtain ⟨x0, x1, -, -⟩ := (RowAt.new w #[.slice p ns.length c, .int .i64 r] 37).c2
  unfold PairsAns at KP
  generalize pairsT (ns, r) = x at *
  obtain ⟨l, b⟩ := x
  simp only at hsrt hlen
  clear hu ht
  cases b
  · go_enter Try.func13, Try.ntmps13
    go_wp2_with (go_at_call 37; (with_reducible refine (KP.out _ HB.out).mono ?_); rintro e w2 ⟨v2, rfl, ho, hb⟩; obtain ⟨q, c2, rfl, -, -⟩ := OP.shape ho; have HB2 := Lib.hid (HB.out.trans (hb.mono HB.out.size)); clear ho hb)
    go_ret2
    exact ⟨rfl, HB2.out⟩
  · have hs := hsrt rfl
    have hl := hlen rfl
    have KF := Lib.hid (fun v W (h : RP W v l) => find_any l k v W h hs (by omega))
    have HG := Lib.hid (fun v => idxL_has (k := k) hs v)
    have hix := idxL_le k l
    clear hsrt hlen hs
    cases hg : getL k l with
    | none =>
      rw [hg] at KF
      simp only [Option.isSome_none] at KF
      go_enter Try.func13, Try.ntmps13
      go_wp2_with (first
        | (go_at_call 37; (with_reducible refine (KP.out _ HB.out).mono ?_); rintro e w2 ⟨v2, rfl, ho, hb⟩; obtain ⟨q, c2, rfl, -, -⟩ := OP.shape ho; have HO := Lib.hid (show RP w2 (.slice q l.length c2) l from OwnE.row encP ho); have HB2 := Lib.hid (HB.out.trans (hb.mono HB.out.size)); clear ho hb)
        | (go_at_call 38; (with_reducible refine (KF.out _ _ HO.out).mono ?_); rintro e w3 ⟨rfl, hb⟩; have HB3 := Lib.hid (HB2.out.trans (hb.mono HB2.out.size)); clear hb))
      go_ret2
      exact ⟨rfl, HB3.out⟩
    | some val =>
      rw [hg] at KF
      simp only [Option.isSome_some] at KF
      have hx := HG.out val hg
      clear HG
      generalize idxL k l = ix at *
      have hxl := (List.getElem?_eq_some_iff.1 hx).1
      have HX := Lib.hid hx
      clear hx hg
      go_enter Try.func13, Try.ntmps13
      go_upto_region 7 with (first
        | (go_at_call 37; (with_reducible refine (KP.out _ HB.out).mono ?_); rintro e w2 ⟨v2, rfl, ho, hb⟩; obtain ⟨q, c2, rfl, -, -⟩ := OP.shape ho; have HO := Lib.hid (show RP w2 (.slice q l.length c2) l from OwnE.row encP ho); have HB2 := Lib.hid (HB.out.trans (hb.mono HB.out.size)); clear ho hb)
        | (go_at_call 38; (with_reducible refine (KF.out _ _ HO.out).mono ?_); rintro e w3 ⟨rfl, hb⟩; replace HO := Lib.hid (RP.below HO.out hb (Nat.le_refl _)); have HB3 := Lib.hid (HB2.out.trans (hb.mono HB2.out.size)); clear hb))
      obtain ⟨a, rfl, c0, c1⟩ := RP.at HO.out HX.out
      go_wp2
      go_ret2
      exact ⟨rfl, HB3.out⟩
end Go.Proofs.Ytefmlbckbhlgdaa
namespace Go.Proofs.Ytefmlbckbhlgdaa
open Go.RowKit Go.Shelf
set_option maxRecDepth 100000
/-- A small block holds no node. -/
theorem RN.apart_small {w : World} {u : Value} {ns : List Nd} {k : Nat} {cs : Array Value} {T : TypeId} (h : RN w u ns) (hr : RowAt w k cs T) (hs : cs.size < 19) : Apart u ns k := by
  rcases h with ⟨_, h⟩ | ⟨a, cap, rfl, h1, h2, hc⟩
  · exact .inl h
  · cases ns with
    | nil => exact .inl rfl
    | cons n l =>
      refine .inr fun e => ?_
      simp only [Value.ownBlock, Option.some.injEq] at e
      have h0 := hc 18 (kidV n 15) rfl
      have hadd : a.add 18 = ⟨a.block, a.off + 18, none⟩ := rfl
      rw [hadd, e, hr.cell] at h0
      rw [Array.getElem?_eq_none (by omega)] at h0
      cases h0
def zT : List Nd × Int := ([], 0)
noncomputable def putR (t : List Nd × Int) (k v : List UInt8) : (List Nd × Int) × Int :=
  if (pairsT t).2 && mayP (k, v) then (if (getL k (pairsT t).1).isSome || decide ((pairsT t).1.length < 64) then (ofT (putL k v (pairsT t).1), 0) else (zT, 2)) else (zT, 1)
noncomputable def delR (t : List Nd × Int) (k : List UInt8) : (List Nd × Int) × Int :=
  if (pairsT t).2 then (if (getL k (pairsT t).1).isSome then (ofT (delL k (pairsT t).1), 0) else (zT, 6)) else (zT, 1)
/-- A trie and an error come back. -/
def TrAns (r : (List Nd × Int) × Int) (w : World) (e : Ending) (w' : World) : Prop := ∃ v, e = .returned (.tuple #[v, .int .i64 r.2]) ∧ TrA w' v r.1 ∧ Below w.heap.size w w'
theorem trNew_any (w : World) : Calls Try.prog 33 #[] w fun e w' => e = .returned (.agg #[.slice none 0 0, .int .i64 (-1)]) ∧ Below w.heap.size w w' := by
  have R := RowAt.new w #[.slice none 0 0, .int .i64 0] 37
  have HB := (Below.refl w.heap.size w).alloc (Nat.le_refl _) (.cells #[.slice none 0 0, .int .i64 0] 37)
  obtain ⟨y0, y1, yf0, yf1⟩ := R.c2
  have R1 := R.set 0 (.slice none 0 0) (cs' := #[.slice none 0 0, .int .i64 0]) rfl
  obtain ⟨m0, m1, -, -⟩ := (R1.set 1 (.int .i64 (-1)) (cs' := #[.slice none 0 0, .int .i64 (-1)]) rfl).c2
  have HB1 := Lib.hid ((HB.setCell (p := ⟨w.heap.size, 0, none⟩) (Nat.le_refl _) (.slice none 0 0)).setCell (p := ⟨w.heap.size, 1, none⟩) (Nat.le_refl _) (.int .i64 (-1)))
  clear R R1 HB
  go_enter Try.func33, Try.ntmps33
  go_wp2
  refine bodyPost_ret (v := .agg #[.slice none 0 0, .int .i64 (-1)]) (by simp [results, Try.results33, go_sem]) rfl ?_
  exact ⟨rfl, (Below.refl _ _).alloc (Nat.le_refl _) _⟩

set_option maxHeartbeats 4000000 in
theorem trPut_no (t : List Nd × Int) (ht : TOk t) (k val : List UInt8) (v : Value) (w : World) (h : TrA w v t) (hno : (pairsT t).2 = false ∨ mayP (k, val) = false) :
    Calls Try.prog 14 #[v, .string (mkS k), .string (mkS val)] w (TrAns (zT, 1) w) := by
  obtain ⟨u, rfl, hu⟩ := h
  have hsrt := pairsT_sort ht
  have hprs : (pairsT t).2 = true → Pairs (pairsT t).1 := fun h => (pairsT_true ht.ns.kids h).1
  obtain ⟨ns, r⟩ := t
  simp only at hu
  obtain ⟨p, c, rfl, z1, z2⟩ := RowE.shape encN hu
  have HB := Lib.hid (bel2T w (.cells #[.slice p ns.length c, .int .i64 r] 37) (.cells #[.slice none 0 0, .int .i64 0] 37))
  have KP := Lib.hid (fun W (hb : Below w.heap.size w W) => pairs_any ns ht.ns (.slice p ns.length c) r W ht.root (RN.below hu hb (Nat.le_refl _)))
  have R0 := (RowAt.new w #[.slice p ns.length c, .int .i64 r] 37).alloc (.cells #[.slice none 0 0, .int .i64 0] 37)
  obtain ⟨x0, x1, -, -⟩ := R0.c2
  have R := Lib.hid (RowAt.new' (w.alloc (.cells #[.slice p ns.length c, .int .i64 r] 37)) #[.slice none 0 0, .int .i64 0] 37 (k := w.heap.size + 1) (by simp))
  unfold PairsAns at KP
  clear R0 hu ht
  have HSZ := Lib.hid (show ((w.alloc (.cells #[.slice p ns.length c, .int .i64 r] 37)).alloc (.cells #[.slice none 0 0, .int .i64 0] 37)).heap.size = w.heap.size + 2 by simp)
  have KM := Lib.hid (fun W => may_any k val W)
  generalize mayP (k, val) = mb at *
  generalize pairsT (ns, r) = x at *
  obtain ⟨l, b⟩ := x
  clear hsrt hprs
  cases b
  · go_enter Try.func14, Try.ntmps14
    go_upto_region 3 with (first | (go_at_call 37; (with_reducible refine (KP.out _ HB.out).mono ?_); rintro e w2 ⟨v2, rfl, ho, hb⟩; obtain ⟨q, c2, rfl, -, -⟩ := OP.shape ho; have HOO := Lib.hid (show OP w2 _ (.slice q l.length c2) l from ho); have HO := Lib.hid (show RP w2 (.slice q l.length c2) l from OwnE.row encP ho); replace R := Lib.hid (R.out.belowS hb); have HB2 := Lib.hid (HB.out.trans (hb.mono HB.out.size)); have HBS := Lib.hid (show w.heap.size + 2 ≤ _ from Nat.le_of_eq HSZ.out.symm); have HB2S := Lib.hid hb.size; clear ho hb) | (go_at_call 39; (with_reducible refine (KM.out _).mono ?_); rintro e w9 ⟨rfl, rfl⟩))
    obtain ⟨y0, y1, yf0, yf1⟩ := R.out.c2
    have R1 := R.out.set 0 (.slice none 0 0) (cs' := #[.slice none 0 0, .int .i64 0]) rfl
    obtain ⟨m0, m1, -, -⟩ := (R1.set 1 (.int .i64 0) (cs' := #[.slice none 0 0, .int .i64 0]) rfl).c2
    have HBF := Lib.hid ((HB2.out.setCell (p := ⟨w.heap.size + 1, 0, none⟩) (Nat.le_succ _) (.slice none 0 0)).setCell (p := ⟨w.heap.size + 1, 1, none⟩) (Nat.le_succ _) (.int .i64 0))
    clear R1
    go_wp2
    refine bodyPost_ret (v := .tuple #[.agg #[.slice none 0 0, .int .i64 0], .int .i64 1]) (by simp [results, Try.results14, go_sem, m0, m1]) rfl ?_
    exact ⟨_, rfl, ⟨_, rfl, .inl ⟨rfl, rfl⟩⟩, HBF.out⟩
  · obtain rfl : mb = false := by rcases hno with h | h <;> simp_all
    go_enter Try.func14, Try.ntmps14
    go_upto_region 3 with (first | (go_at_call 37; (with_reducible refine (KP.out _ HB.out).mono ?_); rintro e w2 ⟨v2, rfl, ho, hb⟩; obtain ⟨q, c2, rfl, -, -⟩ := OP.shape ho; have HOO := Lib.hid (show OP w2 _ (.slice q l.length c2) l from ho); have HO := Lib.hid (show RP w2 (.slice q l.length c2) l from OwnE.row encP ho); replace R := Lib.hid (R.out.belowS hb); have HB2 := Lib.hid (HB.out.trans (hb.mono HB.out.size)); have HBS := Lib.hid (show w.heap.size + 2 ≤ _ from Nat.le_of_eq HSZ.out.symm); have HB2S := Lib.hid hb.size; clear ho hb) | (go_at_call 39; (with_reducible refine (KM.out _).mono ?_); rintro e w9 ⟨rfl, rfl⟩))
    obtain ⟨y0, y1, yf0, yf1⟩ := R.out.c2
    have R1 := R.out.set 0 (.slice none 0 0) (cs' := #[.slice none 0 0, .int .i64 0]) rfl
    obtain ⟨m0, m1, -, -⟩ := (R1.set 1 (.int .i64 0) (cs' := #[.slice none 0 0, .int .i64 0]) rfl).c2
    have HBF := Lib.hid ((HB2.out.setCell (p := ⟨w.heap.size + 1, 0, none⟩) (Nat.le_succ _) (.slice none 0 0)).setCell (p := ⟨w.heap.size + 1, 1, none⟩) (Nat.le_succ _) (.int .i64 0))
    clear R1
    go_wp2
    refine bodyPost_ret (v := .tuple #[.agg #[.slice none 0 0, .int .i64 0], .int .i64 1]) (by simp [results, Try.results14, go_sem, m0, m1]) rfl ?_
    exact ⟨_, rfl, ⟨_, rfl, .inl ⟨rfl, rfl⟩⟩, HBF.out⟩

set_option maxHeartbeats 4000000 in
theorem trPut_full (t : List Nd × Int) (ht : TOk t) (k val : List UInt8) (v : Value) (w : World) (h : TrA w v t) (hp : (pairsT t).2 = true) (hm : mayP (k, val) = true) (hg : getL k (pairsT t).1 = none) (hf : 64 ≤ (pairsT t).1.length) :
    Calls Try.prog 14 #[v, .string (mkS k), .string (mkS val)] w (TrAns (zT, 2) w) := by
  obtain ⟨u, rfl, hu⟩ := h
  have hsrt := pairsT_sort ht
  have hprs : (pairsT t).2 = true → Pairs (pairsT t).1 := fun h => (pairsT_true ht.ns.kids h).1
  obtain ⟨ns, r⟩ := t
  simp only at hu
  obtain ⟨p, c, rfl, z1, z2⟩ := RowE.shape encN hu
  have HB := Lib.hid (bel2T w (.cells #[.slice p ns.length c, .int .i64 r] 37) (.cells #[.slice none 0 0, .int .i64 0] 37))
  have KP := Lib.hid (fun W (hb : Below w.heap.size w W) => pairs_any ns ht.ns (.slice p ns.length c) r W ht.root (RN.below hu hb (Nat.le_refl _)))
  have R0 := (RowAt.new w #[.slice p ns.length c, .int .i64 r] 37).alloc (.cells #[.slice none 0 0, .int .i64 0] 37)
  obtain ⟨x0, x1, -, -⟩ := R0.c2
  have R := Lib.hid (RowAt.new' (w.alloc (.cells #[.slice p ns.length c, .int .i64 r] 37)) #[.slice none 0 0, .int .i64 0] 37 (k := w.heap.size + 1) (by simp))
  unfold PairsAns at KP
  clear R0 hu ht
  have HSZ := Lib.hid (show ((w.alloc (.cells #[.slice p ns.length c, .int .i64 r] 37)).alloc (.cells #[.slice none 0 0, .int .i64 0] 37)).heap.size = w.heap.size + 2 by simp)
  have KM := Lib.hid (fun W => may_any k val W)
  rw [hm] at KM
  have hs := hsrt hp
  have hl := (hprs hp).2.2
  clear hsrt hprs hm
  generalize pairsT (ns, r) = x at *
  obtain ⟨l, b⟩ := x
  simp only at hp hg hf hs hl
  subst hp
  have KF := Lib.hid (fun v W (h : RP W v l) => find_any l k v W h hs (by omega))
  rw [hg] at KF
  simp only [Option.isSome_none] at KF
  have hli : decide ((64 : Int) ≤ l.length) = true := decide_eq_true (by omega)
  have hln : decide (64 ≤ l.length) = true := decide_eq_true hf
  clear hs hg
  go_enter Try.func14, Try.ntmps14
  go_upto_region 9 with (first | (go_at_call 37; (with_reducible refine (KP.out _ HB.out).mono ?_); rintro e w2 ⟨v2, rfl, ho, hb⟩; obtain ⟨q, c2, rfl, -, -⟩ := OP.shape ho; have HOO := Lib.hid (show OP w2 _ (.slice q l.length c2) l from ho); have HO := Lib.hid (show RP w2 (.slice q l.length c2) l from OwnE.row encP ho); replace R := Lib.hid (R.out.belowS hb); have HB2 := Lib.hid (HB.out.trans (hb.mono HB.out.size)); have HBS := Lib.hid (show w.heap.size + 2 ≤ _ from Nat.le_of_eq HSZ.out.symm); have HB2S := Lib.hid hb.size; clear ho hb) | (go_at_call 39; (with_reducible refine (KM.out _).mono ?_); rintro e w9 ⟨rfl, rfl⟩) | (go_at_call 38; (with_reducible refine (KF.out _ _ HO.out).mono ?_); rintro e w3 ⟨rfl, hb⟩; replace HO := Lib.hid (RP.below HO.out hb (Nat.le_refl _)); replace HOO := Lib.hid (HOO.out.below hb (Nat.le_refl _)); replace R := Lib.hid (R.out.belowS hb); have HB3 := Lib.hid (HB2.out.trans (hb.mono HB2.out.size)); have HB3S := Lib.hid (Nat.le_trans HB2S.out hb.size); clear hb))
  obtain ⟨y0, y1, yf0, yf1⟩ := R.out.c2
  have R1 := R.out.set 0 (.slice none 0 0) (cs' := #[.slice none 0 0, .int .i64 0]) rfl
  obtain ⟨m0, m1, -, -⟩ := (R1.set 1 (.int .i64 0) (cs' := #[.slice none 0 0, .int .i64 0]) rfl).c2
  have HBF := Lib.hid ((HB3.out.setCell (p := ⟨w.heap.size + 1, 0, none⟩) (Nat.le_succ _) (.slice none 0 0)).setCell (p := ⟨w.heap.size + 1, 1, none⟩) (Nat.le_succ _) (.int .i64 0))
  clear R1
  go_wp2
  refine bodyPost_ret (v := .tuple #[.agg #[.slice none 0 0, .int .i64 0], .int .i64 2]) (by simp [results, Try.results14, go_sem, m0, m1]) rfl ?_
  exact ⟨_, rfl, ⟨_, rfl, .inl ⟨rfl, rfl⟩⟩, HBF.out⟩
end Go.Proofs.Ytefmlbckbhlgdaa
namespace Go.Proofs.Ytefmlbckbhlgdaa
open Go.RowKit Go.Shelf
set_option maxRecDepth 100000
theorem setCell_self {w : World} {g i : Nat} {cs : Array Value} {T : TypeId} {c : Value} (h : RowAt w g cs T) (hc : cs[i]? = some c) : w.setCell ⟨g, i, none⟩ c = w := by
  rw [setCell_eq_setRow w g i cs T (0, 0) c h]
  have : cs.setIfInBounds i c = cs := by
    apply Array.ext_getElem?
    intro j
    rw [Array.getElem?_setIfInBounds]
    split
    · rename_i e; subst e
      split
      · exact hc.symm
      · rename_i hlt; rw [Array.getElem?_eq_none (by omega)]
    · rfl
  rw [this]
  exact setRow_self w g cs T (0, 0) h
/-- A pair's value is laid anew. -/
theorem OP.setValue {w : World} {base : Nat} {p : Option Addr} {n c : Nat} {L : List Pr} (h : OP w base (.slice p n c) L) {i : Nat} {x : Pr} (hx : L[i]? = some x) (v : List UInt8) :
    ∃ g, p = some ⟨g, 0, none⟩ ∧ base ≤ g ∧ g < w.heap.size ∧ w.cell? ⟨g, i * 2 + 1, none⟩ = some (.string (mkS x.2)) ∧ w.frozen? ⟨g, i * 2 + 1, none⟩ = false ∧ OP (w.setCell ⟨g, i * 2 + 1, none⟩ (.string (mkS v))) base (.slice p n c) (L.set i (x.1, v)) := by
  obtain ⟨g, rfl, h1, h2, h3, h4, h5⟩ := OwnE.at (E := encP) h hx
  have hc0 : w.cell? ⟨g, i * 2, none⟩ = some (.string (mkS x.1)) := h3 0 _ rfl
  have hc1 : w.cell? ⟨g, i * 2 + 1, none⟩ = some (.string (mkS x.2)) := h3 1 _ rfl
  refine ⟨g, rfl, h1, h2, hc1, h4 _, ?_⟩
  obtain ⟨cur, hcur⟩ : ∃ cur, RowAt w g cur 41 := by
    rcases h.2 with ⟨hv, _⟩ | ⟨g', cap, cur, hv, _, hc, _⟩
    · cases hv
    · injection hv with e; injection e with e; injection e with e
      subst e
      exact ⟨cur, hc⟩
  have hself : w.setCell ⟨g, i * 2, none⟩ (.string (mkS x.1)) = w := setCell_self hcur (by rw [← hcur.cell]; exact hc0)
  have := h5 (x.1, v) w (fun C h => h)
  have e : layW w g (i * encP.k) (encP.cells (x.1, v)) = (w.setCell ⟨g, i * 2, none⟩ (.string (mkS x.1))).setCell ⟨g, i * 2 + 1, none⟩ (.string (mkS v)) := rfl
  rw [e, hself] at this
  exact this

set_option maxHeartbeats 8000000 in
theorem trPut_set (t : List Nd × Int) (ht : TOk t) (k val old : List UInt8) (v : Value) (w : World) (h : TrA w v t) (hp : (pairsT t).2 = true) (hm : mayP (k, val) = true) (hg : getL k (pairsT t).1 = some old) :
    Calls Try.prog 14 #[v, .string (mkS k), .string (mkS val)] w (TrAns (ofT (putL k val (pairsT t).1), 0) w) := by
  obtain ⟨u, rfl, hu⟩ := h
  have hsrt := pairsT_sort ht
  have hprs : (pairsT t).2 = true → Pairs (pairsT t).1 := fun h => (pairsT_true ht.ns.kids h).1
  obtain ⟨ns, r⟩ := t
  simp only at hu
  obtain ⟨p, c, rfl, z1, z2⟩ := RowE.shape encN hu
  have HB := Lib.hid (bel2T w (.cells #[.slice p ns.length c, .int .i64 r] 37) (.cells #[.slice none 0 0, .int .i64 0] 37))
  have KP := Lib.hid (fun W (hb : Below w.heap.size w W) => pairs_any ns ht.ns (.slice p ns.length c) r W ht.root (RN.below hu hb (Nat.le_refl _)))
  have R0 := (RowAt.new w #[.slice p ns.length c, .int .i64 r] 37).alloc (.cells #[.slice none 0 0, .int .i64 0] 37)
  obtain ⟨x0, x1, -, -⟩ := R0.c2
  have R := Lib.hid (RowAt.new' (w.alloc (.cells #[.slice p ns.length c, .int .i64 r] 37)) #[.slice none 0 0, .int .i64 0] 37 (k := w.heap.size + 1) (by simp))
  unfold PairsAns at KP
  clear R0 hu ht
  have HSZ := Lib.hid (show ((w.alloc (.cells #[.slice p ns.length c, .int .i64 r] 37)).alloc (.cells #[.slice none 0 0, .int .i64 0] 37)).heap.size = w.heap.size + 2 by simp)
  have KM := Lib.hid (fun W => may_any k val W)
  rw [hm] at KM
  have hs := hsrt hp
  have hpr := (hprs hp).put hm (.inl (by rw [hg]; rfl))
  have hl := (hprs hp).2.2
  clear hsrt hprs hm
  generalize pairsT (ns, r) = x at *
  obtain ⟨l, b⟩ := x
  simp only at hp hg hs hl hpr
  subst hp
  have KF := Lib.hid (fun v W (h : RP W v l) => find_any l k v W h hs (by omega))
  have hset := putL_has (v := val) hs (by rw [hg]; rfl)
  have hx := idxL_has hs old hg
  rw [hg] at KF
  simp only [Option.isSome_some] at KF
  have KO := Lib.hid (fun v W (h : RP W v (putL k val l)) => trieOf_any (putL k val l) v W h hpr.1 (by have := hpr.2.2; omega) (fun x hx => by have := mayP_len (hpr.2.1 x hx); omega))
  generalize ofT (putL k val l) = tr at *
  obtain ⟨ms, ix⟩ := tr
  have hxl := (List.getElem?_eq_some_iff.1 hx).1
  generalize putL k val l = L2 at *
  generalize idxL k l = i at *
  have HX := Lib.hid hx
  have HSE := Lib.hid hset
  clear hs hg hpr hset hx
  go_enter Try.func14, Try.ntmps14
  go_upto_region 7 with (first | (go_at_call 37; (with_reducible refine (KP.out _ HB.out).mono ?_); rintro e w2 ⟨v2, rfl, ho, hb⟩; obtain ⟨q, c2, rfl, -, -⟩ := OP.shape ho; have HOO := Lib.hid (show OP w2 _ (.slice q l.length c2) l from ho); have HO := Lib.hid (show RP w2 (.slice q l.length c2) l from OwnE.row encP ho); replace R := Lib.hid (R.out.belowS hb); have HB2 := Lib.hid (HB.out.trans (hb.mono HB.out.size)); have HBS := Lib.hid (show w.heap.size + 2 ≤ _ from Nat.le_of_eq HSZ.out.symm); have HB2S := Lib.hid hb.size; clear ho hb) | (go_at_call 39; (with_reducible refine (KM.out _).mono ?_); rintro e w9 ⟨rfl, rfl⟩) | (go_at_call 38; (with_reducible refine (KF.out _ _ HO.out).mono ?_); rintro e w3 ⟨rfl, hb⟩; replace HO := Lib.hid (RP.below HO.out hb (Nat.le_refl _)); replace HOO := Lib.hid (HOO.out.below hb (Nat.le_refl _)); replace R := Lib.hid (R.out.belowS hb); have HB3 := Lib.hid (HB2.out.trans (hb.mono HB2.out.size)); have HB3S := Lib.hid (Nat.le_trans HB2S.out hb.size); clear hb))
  obtain ⟨g, rfl, hg1, hg2, c1, f1, O5⟩ := OP.setValue HOO.out HX.out val
  have HG := Lib.hid (show w.heap.size + 2 ≤ g from Nat.le_trans HBS.out hg1)
  rw [← HSE.out] at O5
  have HO6 := Lib.hid (show RP _ _ L2 from OwnE.row encP O5)
  have HB6 := Lib.hid (HB3.out.setCell (p := ⟨g, i * 2 + 1, none⟩) (by have := HG.out; show w.heap.size ≤ g; omega) (.string (mkS val)))
  replace R := Lib.hid (R.out.other ⟨g, i * 2 + 1, none⟩ (.string (mkS val)) (by have := HG.out; show w.heap.size + 1 ≠ g; omega))
  clear O5 hg1 hg2 HOO HO
  go_upto_region 10 with (fail)
  clear c1 f1
  generalize w3.setCell ⟨g, i * 2 + 1, none⟩ (.string (mkS val)) = w6 at *
  go_wp2_with (go_at_call 41; (with_reducible refine (KO.out _ _ HO6.out).mono ?_); rintro e w7 ⟨u7, rfl, hr7, hb7⟩; replace R := Lib.hid (R.out.belowS hb7); have HB7 := Lib.hid (HB6.out.trans (hb7.mono HB6.out.size)); clear hb7; obtain ⟨p7, c7, rfl, z7, z8⟩ := RowE.shape encN hr7; have HAP := Lib.hid (RN.apart_small hr7 R.out (by simp)); have HR7 := Lib.hid hr7; obtain ⟨y0, y1, yf0, yf1⟩ := R.out.c2; have R1 := R.out.set 0 (.slice p7 ms.length c7) (cs' := #[.slice p7 ms.length c7, .int .i64 0]) rfl; obtain ⟨m0, m1, -, -⟩ := (R1.set 1 (.int .i64 ix) (cs' := #[.slice p7 ms.length c7, .int .i64 ix]) rfl).c2; have HBF := Lib.hid ((HB7.out.setCell (p := ⟨w.heap.size + 1, 0, none⟩) (Nat.le_succ _) (.slice p7 ms.length c7)).setCell (p := ⟨w.heap.size + 1, 1, none⟩) (Nat.le_succ _) (.int .i64 ix)); have H8 := Lib.hid ((HR7.out.set HAP.out 0 (.slice p7 ms.length c7)).set HAP.out 1 (.int .i64 ix)); clear R1 hr7)
  refine bodyPost_ret (v := .tuple #[.agg #[.slice p7 ms.length c7, .int .i64 ix], .int .i64 0]) (by simp [results, Try.results14, go_sem, m0, m1]) rfl ?_
  exact ⟨_, rfl, ⟨_, rfl, H8.out⟩, HBF.out⟩

set_option maxHeartbeats 8000000 in
theorem trPut_new (t : List Nd × Int) (ht : TOk t) (k val : List UInt8) (v : Value) (w : World) (h : TrA w v t) (hp : (pairsT t).2 = true) (hm : mayP (k, val) = true) (hg : getL k (pairsT t).1 = none) (hf : (pairsT t).1.length < 64) :
    Calls Try.prog 14 #[v, .string (mkS k), .string (mkS val)] w (TrAns (ofT (putL k val (pairsT t).1), 0) w) := by
  obtain ⟨u, rfl, hu⟩ := h
  have hsrt := pairsT_sort ht
  have hprs : (pairsT t).2 = true → Pairs (pairsT t).1 := fun h => (pairsT_true ht.ns.kids h).1
  obtain ⟨ns, r⟩ := t
  simp only at hu
  obtain ⟨p, c, rfl, z1, z2⟩ := RowE.shape encN hu
  have HB := Lib.hid (bel2T w (.cells #[.slice p ns.length c, .int .i64 r] 37) (.cells #[.slice none 0 0, .int .i64 0] 37))
  have KP := Lib.hid (fun W (hb : Below w.heap.size w W) => pairs_any ns ht.ns (.slice p ns.length c) r W ht.root (RN.below hu hb (Nat.le_refl _)))
  have R0 := (RowAt.new w #[.slice p ns.length c, .int .i64 r] 37).alloc (.cells #[.slice none 0 0, .int .i64 0] 37)
  obtain ⟨x0, x1, -, -⟩ := R0.c2
  have R := Lib.hid (RowAt.new' (w.alloc (.cells #[.slice p ns.length c, .int .i64 r] 37)) #[.slice none 0 0, .int .i64 0] 37 (k := w.heap.size + 1) (by simp))
  unfold PairsAns at KP
  clear R0 hu ht
  have HSZ := Lib.hid (show ((w.alloc (.cells #[.slice p ns.length c, .int .i64 r] 37)).alloc (.cells #[.slice none 0 0, .int .i64 0] 37)).heap.size = w.heap.size + 2 by simp)
  have KM := Lib.hid (fun W => may_any k val W)
  rw [hm] at KM
  have hs := hsrt hp
  have hpr := (hprs hp).put hm (.inr hf)
  clear hsrt hprs hm
  generalize pairsT (ns, r) = x at *
  obtain ⟨l, b⟩ := x
  simp only at hp hg hs hf hpr
  subst hp
  have KF := Lib.hid (fun v W (h : RP W v l) => find_any l k v W h hs (by omega))
  have hset := putL_not (v := val) hs hg
  have hxl := idxL_le k l
  rw [hg] at KF
  simp only [Option.isSome_none] at KF
  have KO := Lib.hid (fun v W (h : RP W v (putL k val l)) => trieOf_any (putL k val l) v W h hpr.1 (by have := hpr.2.2; omega) (fun x hx => by have := mayP_len (hpr.2.1 x hx); omega))
  generalize ofT (putL k val l) = tr at *
  obtain ⟨ms, ix⟩ := tr
  generalize putL k val l = L2 at *
  generalize idxL k l = i at *
  have HSE := Lib.hid hset
  have hln : decide (64 ≤ l.length) = false := decide_eq_false (by omega)
  clear hs hg hpr hset
  go_enter Try.func14, Try.ntmps14
  go_upto_region 5 with (first | (go_at_call 37; (with_reducible refine (KP.out _ HB.out).mono ?_); rintro e w2 ⟨v2, rfl, ho, hb⟩; obtain ⟨q, c2, rfl, -, -⟩ := OP.shape ho; have HOO := Lib.hid (show OP w2 _ (.slice q l.length c2) l from ho); have HO := Lib.hid (show RP w2 (.slice q l.length c2) l from OwnE.row encP ho); replace R := Lib.hid (R.out.belowS hb); have HB2 := Lib.hid (HB.out.trans (hb.mono HB.out.size)); have HBS := Lib.hid (show w.heap.size + 2 ≤ _ from Nat.le_of_eq HSZ.out.symm); have HB2S := Lib.hid hb.size; clear ho hb) | (go_at_call 39; (with_reducible refine (KM.out _).mono ?_); rintro e w9 ⟨rfl, rfl⟩) | (go_at_call 38; (with_reducible refine (KF.out _ _ HO.out).mono ?_); rintro e w3 ⟨rfl, hb⟩; replace HO := Lib.hid (RP.below HO.out hb (Nat.le_refl _)); replace HOO := Lib.hid (HOO.out.below hb (Nat.le_refl _)); replace R := Lib.hid (R.out.belowS hb); have HB3 := Lib.hid (HB2.out.trans (hb.mono HB2.out.size)); have HB3S := Lib.hid (Nat.le_trans HB2S.out hb.size); clear hb))
  have HA := Lib.hid (prAlloc w3 (k, val))
  have HOO4 := Lib.hid (show OwnE encP 41 _ _ _ l from HOO.out.below HA.out (Nat.le_refl _))
  have HRX := Lib.hid (RowAt.new w3 #[.string (mkS k), .string (mkS val)] 41)
  have HNE := Lib.hid (show (Value.slice q l.length c2).ownBlock ≠ some w3.heap.size from fun e => by have := (World.ownsRow.lt HOO.out _ e).2; omega)
  have HB4 := Lib.hid (HB3.out.trans (HA.out.mono HB3.out.size))
  have HB4S := Lib.hid (Nat.le_trans HB3S.out HA.out.size)
  replace R := Lib.hid (R.out.alloc (prO (k, val)))
  clear HOO HO
  go_upto_region 10 with (go_at_call 40; (with_reducible refine (insertP_any (.slice q l.length c2) l i (k, val) w3.heap.size _ _ HOO4.out hxl HB4S.out HRX.out HNE.out (by omega)).mono ?_); rintro e w6 ⟨v6, rfl, ho6, hb6⟩; have HO6 := Lib.hid (show RP w6 v6 L2 from by rw [HSE.out]; exact OwnE.row encP ho6); replace R := Lib.hid (R.out.below hb6 (by have := HBS.out; omega)); have HB6 := Lib.hid (HB4.out.trans (hb6.mono (by have := HBS.out; omega))); clear ho6 hb6)
  go_wp2_with (go_at_call 41; (with_reducible refine (KO.out _ _ HO6.out).mono ?_); rintro e w7 ⟨u7, rfl, hr7, hb7⟩; replace R := Lib.hid (R.out.belowS hb7); have HB7 := Lib.hid (HB6.out.trans (hb7.mono HB6.out.size)); clear hb7; obtain ⟨p7, c7, rfl, z7, z8⟩ := RowE.shape encN hr7; have HAP := Lib.hid (RN.apart_small hr7 R.out (by simp)); have HR7 := Lib.hid hr7; obtain ⟨y0, y1, yf0, yf1⟩ := R.out.c2; have R1 := R.out.set 0 (.slice p7 ms.length c7) (cs' := #[.slice p7 ms.length c7, .int .i64 0]) rfl; obtain ⟨m0, m1, -, -⟩ := (R1.set 1 (.int .i64 ix) (cs' := #[.slice p7 ms.length c7, .int .i64 ix]) rfl).c2; have HBF := Lib.hid ((HB7.out.setCell (p := ⟨w.heap.size + 1, 0, none⟩) (Nat.le_succ _) (.slice p7 ms.length c7)).setCell (p := ⟨w.heap.size + 1, 1, none⟩) (Nat.le_succ _) (.int .i64 ix)); have H8 := Lib.hid ((HR7.out.set HAP.out 0 (.slice p7 ms.length c7)).set HAP.out 1 (.int .i64 ix)); clear R1 hr7)
  refine bodyPost_ret (v := .tuple #[.agg #[.slice p7 ms.length c7, .int .i64 ix], .int .i64 0]) (by simp [results, Try.results14, go_sem, m0, m1]) rfl ?_
  exact ⟨_, rfl, ⟨_, rfl, H8.out⟩, HBF.out⟩
end Go.Proofs.Ytefmlbckbhlgdaa
namespace Go.Proofs.Ytefmlbckbhlgdaa
open Go.RowKit Go.Shelf
set_option maxRecDepth 100000
set_option maxHeartbeats 4000000 in
theorem trDel_no (t : List Nd × Int) (ht : TOk t) (k : List UInt8) (v : Value) (w : World) (h : TrA w v t) (hno : (pairsT t).2 = false) :
    Calls Try.prog 16 #[v, .string (mkS k)] w (TrAns (zT, 1) w) := by
  obtain ⟨u, rfl, hu⟩ := h
  have hsrt := pairsT_sort ht
  have hprs : (pairsT t).2 = true → Pairs (pairsT t).1 := fun h => (pairsT_true ht.ns.kids h).1
  obtain ⟨ns, r⟩ := t
  simp only at hu
  obtain ⟨p, c, rfl, z1, z2⟩ := RowE.shape encN hu
  have HB := Lib.hid (bel2T w (.cells #[.slice p ns.length c, .int .i64 r] 37) (.cells #[.slice none 0 0, .int .i64 0] 37))
  have KP := Lib.hid (fun W (hb : Below w.heap.size w W) => pairs_any ns ht.ns (.slice p ns.length c) r W ht.root (RN.below hu hb (Nat.le_refl _)))
  have R0 := (RowAt.new w #[.slice p ns.length c, .int .i64 r] 37).alloc (.cells #[.slice none 0 0, .int .i64 0] 37)
  obtain ⟨x0, x1, -, -⟩ := R0.c2
  have R := Lib.hid (RowAt.new' (w.alloc (.cells #[.slice p ns.length c, .int .i64 r] 37)) #[.slice none 0 0, .int .i64 0] 37 (k := w.heap.size + 1) (by simp))
  unfold PairsAns at KP
  clear R0 hu ht
  have HSZ := Lib.hid (show ((w.alloc (.cells #[.slice p ns.length c, .int .i64 r] 37)).alloc (.cells #[.slice none 0 0, .int .i64 0] 37)).heap.size = w.heap.size + 2 by simp)
  generalize pairsT (ns, r) = x at *
  obtain ⟨l, b⟩ := x
  simp only at hno
  subst hno
  clear hsrt hprs
  go_enter Try.func16, Try.ntmps16
  go_upto_region 3 with ((go_at_call 37; (with_reducible refine (KP.out _ HB.out).mono ?_); rintro e w2 ⟨v2, rfl, ho, hb⟩; obtain ⟨q, c2, rfl, -, -⟩ := OP.shape ho; have HOO := Lib.hid (show OP w2 _ (.slice q l.length c2) l from ho); have HO := Lib.hid (show RP w2 (.slice q l.length c2) l from OwnE.row encP ho); replace R := Lib.hid (R.out.belowS hb); have HB2 := Lib.hid (HB.out.trans (hb.mono HB.out.size)); have HBS := Lib.hid (show w.heap.size + 2 ≤ _ from Nat.le_of_eq HSZ.out.symm); have HB2S := Lib.hid hb.size; clear ho hb))
  obtain ⟨y0, y1, yf0, yf1⟩ := R.out.c2
  have R1 := R.out.set 0 (.slice none 0 0) (cs' := #[.slice none 0 0, .int .i64 0]) rfl
  obtain ⟨m0, m1, -, -⟩ := (R1.set 1 (.int .i64 0) (cs' := #[.slice none 0 0, .int .i64 0]) rfl).c2
  have HBF := Lib.hid ((HB2.out.setCell (p := ⟨w.heap.size + 1, 0, none⟩) (Nat.le_succ _) (.slice none 0 0)).setCell (p := ⟨w.heap.size + 1, 1, none⟩) (Nat.le_succ _) (.int .i64 0))
  clear R1
  go_wp2
  refine bodyPost_ret (v := .tuple #[.agg #[.slice none 0 0, .int .i64 0], .int .i64 1]) (by simp [results, Try.results16, go_sem, m0, m1]) rfl ?_
  exact ⟨_, rfl, ⟨_, rfl, .inl ⟨rfl, rfl⟩⟩, HBF.out⟩

set_option maxHeartbeats 4000000 in
theorem trDel_none (t : List Nd × Int) (ht : TOk t) (k : List UInt8) (v : Value) (w : World) (h : TrA w v t) (hp : (pairsT t).2 = true) (hg : getL k (pairsT t).1 = none) :
    Calls Try.prog 16 #[v, .string (mkS k)] w (TrAns (zT, 6) w) := by
  obtain ⟨u, rfl, hu⟩ := h
  have hsrt := pairsT_sort ht
  have hprs : (pairsT t).2 = true → Pairs (pairsT t).1 := fun h => (pairsT_true ht.ns.kids h).1
  obtain ⟨ns, r⟩ := t
  simp only at hu
  obtain ⟨p, c, rfl, z1, z2⟩ := RowE.shape encN hu
  have HB := Lib.hid (bel2T w (.cells #[.slice p ns.length c, .int .i64 r] 37) (.cells #[.slice none 0 0, .int .i64 0] 37))
  have KP := Lib.hid (fun W (hb : Below w.heap.size w W) => pairs_any ns ht.ns (.slice p ns.length c) r W ht.root (RN.below hu hb (Nat.le_refl _)))
  have R0 := (RowAt.new w #[.slice p ns.length c, .int .i64 r] 37).alloc (.cells #[.slice none 0 0, .int .i64 0] 37)
  obtain ⟨x0, x1, -, -⟩ := R0.c2
  have R := Lib.hid (RowAt.new' (w.alloc (.cells #[.slice p ns.length c, .int .i64 r] 37)) #[.slice none 0 0, .int .i64 0] 37 (k := w.heap.size + 1) (by simp))
  unfold PairsAns at KP
  clear R0 hu ht
  have HSZ := Lib.hid (show ((w.alloc (.cells #[.slice p ns.length c, .int .i64 r] 37)).alloc (.cells #[.slice none 0 0, .int .i64 0] 37)).heap.size = w.heap.size + 2 by simp)
  have hs := hsrt hp
  have hl := (hprs hp).2.2
  clear hsrt hprs
  generalize pairsT (ns, r) = x at *
  obtain ⟨l, b⟩ := x
  simp only at hp hg hs hl
  subst hp
  have KF := Lib.hid (fun v W (h : RP W v l) => find_any l k v W h hs (by omega))
  rw [hg] at KF
  simp only [Option.isSome_none] at KF
  clear hs hg
  go_enter Try.func16, Try.ntmps16
  go_upto_region 6 with (first | (go_at_call 37; (with_reducible refine (KP.out _ HB.out).mono ?_); rintro e w2 ⟨v2, rfl, ho, hb⟩; obtain ⟨q, c2, rfl, -, -⟩ := OP.shape ho; have HOO := Lib.hid (show OP w2 _ (.slice q l.length c2) l from ho); have HO := Lib.hid (show RP w2 (.slice q l.length c2) l from OwnE.row encP ho); replace R := Lib.hid (R.out.belowS hb); have HB2 := Lib.hid (HB.out.trans (hb.mono HB.out.size)); have HBS := Lib.hid (show w.heap.size + 2 ≤ _ from Nat.le_of_eq HSZ.out.symm); have HB2S := Lib.hid hb.size; clear ho hb) | (go_at_call 38; (with_reducible refine (KF.out _ _ HO.out).mono ?_); rintro e w3 ⟨rfl, hb⟩; replace HO := Lib.hid (RP.below HO.out hb (Nat.le_refl _)); replace HOO := Lib.hid (HOO.out.below hb (Nat.le_refl _)); replace R := Lib.hid (R.out.belowS hb); have HB3 := Lib.hid (HB2.out.trans (hb.mono HB2.out.size)); have HB3S := Lib.hid (Nat.le_trans HB2S.out hb.size); clear hb))
  obtain ⟨y0, y1, yf0, yf1⟩ := R.out.c2
  have R1 := R.out.set 0 (.slice none 0 0) (cs' := #[.slice none 0 0, .int .i64 0]) rfl
  obtain ⟨m0, m1, -, -⟩ := (R1.set 1 (.int .i64 0) (cs' := #[.slice none 0 0, .int .i64 0]) rfl).c2
  have HBF := Lib.hid ((HB3.out.setCell (p := ⟨w.heap.size + 1, 0, none⟩) (Nat.le_succ _) (.slice none 0 0)).setCell (p := ⟨w.heap.size + 1, 1, none⟩) (Nat.le_succ _) (.int .i64 0))
  clear R1
  go_wp2
  refine bodyPost_ret (v := .tuple #[.agg #[.slice none 0 0, .int .i64 0], .int .i64 6]) (by simp [results, Try.results16, go_sem, m0, m1]) rfl ?_
  exact ⟨_, rfl, ⟨_, rfl, .inl ⟨rfl, rfl⟩⟩, HBF.out⟩

set_option maxHeartbeats 8000000 in
theorem trDel_yes (t : List Nd × Int) (ht : TOk t) (k old : List UInt8) (v : Value) (w : World) (h : TrA w v t) (hp : (pairsT t).2 = true) (hg : getL k (pairsT t).1 = some old) :
    Calls Try.prog 16 #[v, .string (mkS k)] w (TrAns (ofT (delL k (pairsT t).1), 0) w) := by
  obtain ⟨u, rfl, hu⟩ := h
  have hsrt := pairsT_sort ht
  have hprs : (pairsT t).2 = true → Pairs (pairsT t).1 := fun h => (pairsT_true ht.ns.kids h).1
  obtain ⟨ns, r⟩ := t
  simp only at hu
  obtain ⟨p, c, rfl, z1, z2⟩ := RowE.shape encN hu
  have HB := Lib.hid (bel2T w (.cells #[.slice p ns.length c, .int .i64 r] 37) (.cells #[.slice none 0 0, .int .i64 0] 37))
  have KP := Lib.hid (fun W (hb : Below w.heap.size w W) => pairs_any ns ht.ns (.slice p ns.length c) r W ht.root (RN.below hu hb (Nat.le_refl _)))
  have R0 := (RowAt.new w #[.slice p ns.length c, .int .i64 r] 37).alloc (.cells #[.slice none 0 0, .int .i64 0] 37)
  obtain ⟨x0, x1, -, -⟩ := R0.c2
  have R := Lib.hid (RowAt.new' (w.alloc (.cells #[.slice p ns.length c, .int .i64 r] 37)) #[.slice none 0 0, .int .i64 0] 37 (k := w.heap.size + 1) (by simp))
  unfold PairsAns at KP
  clear R0 hu ht
  have HSZ := Lib.hid (show ((w.alloc (.cells #[.slice p ns.length c, .int .i64 r] 37)).alloc (.cells #[.slice none 0 0, .int .i64 0] 37)).heap.size = w.heap.size + 2 by simp)
  have hs := hsrt hp
  have hpr := (hprs hp).del (k := k)
  have hl := (hprs hp).2.2
  clear hsrt hprs
  generalize pairsT (ns, r) = x at *
  obtain ⟨l, b⟩ := x
  simp only at hp hg hs hl hpr
  subst hp
  have KF := Lib.hid (fun v W (h : RP W v l) => find_any l k v W h hs (by omega))
  have hset := delL_has hs (by rw [hg]; rfl)
  have hx := idxL_has hs old hg
  rw [hg] at KF
  simp only [Option.isSome_some] at KF
  have KO := Lib.hid (fun v W (h : RP W v (delL k l)) => trieOf_any (delL k l) v W h hpr.1 (by have := hpr.2.2; omega) (fun x hx => by have := mayP_len (hpr.2.1 x hx); omega))
  generalize ofT (delL k l) = tr at *
  obtain ⟨ms, ix⟩ := tr
  have hxl := (List.getElem?_eq_some_iff.1 hx).1
  generalize delL k l = L2 at *
  generalize idxL k l = i at *
  have HSE := Lib.hid hset
  have hwi : IntKind.i64.wrap ((i : Int) + 1) = (i : Int) + 1 := by rw [IntKind.wrap_i64]; omega
  clear hs hg hpr hset hx
  go_enter Try.func16, Try.ntmps16
  go_upto_region 7 with (first | (go_at_call 37; (with_reducible refine (KP.out _ HB.out).mono ?_); rintro e w2 ⟨v2, rfl, ho, hb⟩; obtain ⟨q, c2, rfl, -, -⟩ := OP.shape ho; have HOO := Lib.hid (show OP w2 _ (.slice q l.length c2) l from ho); have HO := Lib.hid (show RP w2 (.slice q l.length c2) l from OwnE.row encP ho); replace R := Lib.hid (R.out.belowS hb); have HB2 := Lib.hid (HB.out.trans (hb.mono HB.out.size)); have HBS := Lib.hid (show w.heap.size + 2 ≤ _ from Nat.le_of_eq HSZ.out.symm); have HB2S := Lib.hid hb.size; clear ho hb) | (go_at_call 38; (with_reducible refine (KF.out _ _ HO.out).mono ?_); rintro e w3 ⟨rfl, hb⟩; replace HO := Lib.hid (RP.below HO.out hb (Nat.le_refl _)); replace HOO := Lib.hid (HOO.out.below hb (Nat.le_refl _)); replace R := Lib.hid (R.out.belowS hb); have HB3 := Lib.hid (HB2.out.trans (hb.mono HB2.out.size)); have HB3S := Lib.hid (Nat.le_trans HB2S.out hb.size); clear hb))
  have HOO4 := Lib.hid (show OwnE encP 41 _ _ _ l from HOO.out)
  clear HOO HO
  go_wp2_with (first
    | (go_at_call 42; (with_reducible refine (deleteP_any (.slice q l.length c2) l i w3 _ HOO4.out hxl HB3S.out (by omega)).mono ?_); rintro e w6 ⟨v6, rfl, ho6, hb6⟩; have HO6 := Lib.hid (show RP w6 v6 L2 from by rw [HSE.out]; exact OwnE.row encP ho6); replace R := Lib.hid (R.out.below hb6 (by have := HBS.out; omega)); have HB6 := Lib.hid (HB3.out.trans (hb6.mono (by have := HBS.out; omega))); clear ho6 hb6)
    | (go_at_call 41; (with_reducible refine (KO.out _ _ HO6.out).mono ?_); rintro e w7 ⟨u7, rfl, hr7, hb7⟩; replace R := Lib.hid (R.out.belowS hb7); have HB7 := Lib.hid (HB6.out.trans (hb7.mono HB6.out.size)); clear hb7; obtain ⟨p7, c7, rfl, z7, z8⟩ := RowE.shape encN hr7; have HAP := Lib.hid (RN.apart_small hr7 R.out (by simp)); have HR7 := Lib.hid hr7; obtain ⟨y0, y1, yf0, yf1⟩ := R.out.c2; have R1 := R.out.set 0 (.slice p7 ms.length c7) (cs' := #[.slice p7 ms.length c7, .int .i64 0]) rfl; obtain ⟨m0, m1, -, -⟩ := (R1.set 1 (.int .i64 ix) (cs' := #[.slice p7 ms.length c7, .int .i64 ix]) rfl).c2; have HBF := Lib.hid ((HB7.out.setCell (p := ⟨w.heap.size + 1, 0, none⟩) (Nat.le_succ _) (.slice p7 ms.length c7)).setCell (p := ⟨w.heap.size + 1, 1, none⟩) (Nat.le_succ _) (.int .i64 ix)); have H8 := Lib.hid ((HR7.out.set HAP.out 0 (.slice p7 ms.length c7)).set HAP.out 1 (.int .i64 ix)); clear R1 hr7))
  refine bodyPost_ret (v := .tuple #[.agg #[.slice p7 ms.length c7, .int .i64 ix], .int .i64 0]) (by simp [results, Try.results16, go_sem, m0, m1]) rfl ?_
  exact ⟨_, rfl, ⟨_, rfl, H8.out⟩, HBF.out⟩

theorem trPut_any (t : List Nd × Int) (ht : TOk t) (k val : List UInt8) (v : Value) (w : World) (h : TrA w v t) : Calls Try.prog 14 #[v, .string (mkS k), .string (mkS val)] w (TrAns (putR t k val) w) := by
  unfold putR
  by_cases hp : (pairsT t).2 = true
  · by_cases hm : mayP (k, val) = true
    · rw [if_pos (by rw [hp, hm]; rfl)]
      cases hg : getL k (pairsT t).1 with
      | some old =>
        rw [if_pos (by simp)]
        exact trPut_set t ht k val old v w h hp hm hg
      | none =>
        by_cases hf : (pairsT t).1.length < 64
        · rw [if_pos (by simpa using hf)]
          exact trPut_new t ht k val v w h hp hm hg hf
        · rw [if_neg (by simpa using hf)]
          exact trPut_full t ht k val v w h hp hm hg (by omega)
    · rw [if_neg (by simp [hm])]
      exact trPut_no t ht k val v w h (.inr (by simpa using hm))
  · rw [if_neg (by simp [hp])]
    exact trPut_no t ht k val v w h (.inl (by simpa using hp))
theorem trDel_any (t : List Nd × Int) (ht : TOk t) (k : List UInt8) (v : Value) (w : World) (h : TrA w v t) : Calls Try.prog 16 #[v, .string (mkS k)] w (TrAns (delR t k) w) := by
  unfold delR
  by_cases hp : (pairsT t).2 = true
  · rw [if_pos hp]
    cases hg : getL k (pairsT t).1 with
    | some old =>
      rw [if_pos (show (some old).isSome = true from rfl)]
      exact trDel_yes t ht k old v w h hp hg
    | none =>
      rw [if_neg (show ¬ (none : Option (List UInt8)).isSome = true by simp)]
      exact trDel_none t ht k v w h hp hg
  · rw [if_neg hp]
    exact trDel_no t ht k v w h (by simpa using hp)
end Go.Proofs.Ytefmlbckbhlgdaa
namespace Go.Proofs.Ytefmlbckbhlgdaa
open Go.RowKit
theorem wrapN {n : Nat} (h : n < 9223372036854775808) : IntKind.i64.wrap (n : Int) = (n : Int) := by
  simp [IntKind.wrap, IntKind.bits, IntKind.signed]; omega
/-- Numbers by their places. -/
abbrev NF := Nat → Int
def upd (A : NF) (i : Nat) (v : Int) : NF := fun j => if j = i then v else A j
/-- The first 't' by 'f', the others by 'A'. -/
def upto (t : Nat) (f A : NF) : NF := fun i => if i < t then f i else A i
theorem upto_zero {f A : NF} : upto 0 f A = A := by funext i; simp [upto]
theorem upto_step {t : Nat} {f A : NF} {v : Int} (h : v = f t) : upd (upto t f A) t v = upto (t + 1) f A := by
  subst h
  funext i
  unfold upd upto
  by_cases e : i = t
  · subst e; rw [if_pos rfl, if_pos (Nat.lt_succ_self _)]
  · rw [if_neg e]
    by_cases e2 : i < t
    · rw [if_pos e2, if_pos (by omega)]
    · rw [if_neg e2, if_neg (by omega)]
theorem upto_full {t i : Nat} {f A : NF} (h : i < t) : upto t f A i = f i := if_pos h
theorem upto_at {t i : Nat} {f A : NF} (h : t ≤ i) : upto t f A i = A i := if_neg (by omega)
/-- A row of 'n' numbers. -/
def rV (n : Nat) (k : IntKind) (A : NF) : Array Value := ((List.range n).map fun i => Value.int k (A i)).toArray
theorem rV_size {n : Nat} {k : IntKind} {A : NF} : (rV n k A).size = n := by simp [rV]
theorem rV_get {n : Nat} {k : IntKind} {A : NF} {i : Nat} (h : i < n) : (rV n k A)[i]? = some (.int k (A i)) := by
  simp [rV, h]
theorem rV_ext {n : Nat} {k : IntKind} {A B : NF} (h : ∀ i, i < n → A i = B i) : rV n k A = rV n k B := by
  unfold rV
  congr 1
  exact List.map_congr_left (fun i hi => by rw [h i (List.mem_range.1 hi)])
theorem rV_set {n : Nat} {k : IntKind} {A : NF} {i : Nat} (v : Int) : (rV n k A).setIfInBounds i (.int k v) = rV n k (upd A i v) := by
  apply Array.ext_getElem?
  intro j
  rw [Array.getElem?_setIfInBounds]
  by_cases h : j < n
  · rw [rV_get h]
    by_cases e : i = j
    · subst e
      rw [if_pos rfl, rV_size, if_pos h, rV_get h, upd, if_pos rfl]
    · rw [if_neg e, rV_get h, upd, if_neg (fun e' => e e'.symm)]
  · have h1 : (rV n k A)[j]? = none := Array.getElem?_eq_none (by rw [rV_size]; omega)
    have h2 : (rV n k (upd A i v))[j]? = none := Array.getElem?_eq_none (by rw [rV_size]; omega)
    rw [h1, h2]
    by_cases e : i = j
    · subst e
      simp [rV_size, h]
    · rw [if_neg e]
theorem rV_one {n : Nat} {k : IntKind} {A : NF} : (rV n k A).all (·.oneCell') = true := by
  simp [rV, Value.oneCell']
theorem RowAt.num {w : World} {b n : Nat} {k : IntKind} {A : NF} {T : TypeId} (h : RowAt w b (rV n k A) T) {i : Nat} (hi : i < n) : w.cell? ⟨b, i, none⟩ = some (.int k (A i)) := by
  rw [h.cell, rV_get hi]
theorem RowAt.upd {w : World} {b n : Nat} {k : IntKind} {A : NF} {T : TypeId} (h : RowAt w b (rV n k A) T) (i : Nat) (v : Int) {B : NF} (hB : ∀ j, j < n → Go.Proofs.Ytefmlbckbhlgdaa.upd A i v j = B j) : RowAt (w.setCell ⟨b, i, none⟩ (.int k v)) b (rV n k B) T :=
  h.set i _ (by rw [rV_set, rV_ext hB])
theorem RowAt.same {w : World} {b n : Nat} {k : IntKind} {A B : NF} {T : TypeId} (h : RowAt w b (rV n k A) T) (e : ∀ i, i < n → A i = B i) : RowAt w b (rV n k B) T := rV_ext e ▸ h
theorem RowAt.full {w : World} {b n : Nat} {k : IntKind} {f A : NF} {T : TypeId} (h : RowAt w b (rV n k (upto n f A)) T) : RowAt w b (rV n k f) T := by
  rw [rV_ext (A := f) (B := upto n f A) (fun i hi => (upto_full hi).symm)]
  exact h
theorem RowAt.step {w : World} {b n : Nat} {k : IntKind} {t : Nat} {f A : NF} {T : TypeId} (h : RowAt w b (rV n k (upto t f A)) T) {v : Int} (hv : v = f t) : RowAt (w.setCell ⟨b, t, none⟩ (.int k v)) b (rV n k (upto (t + 1) f A)) T :=
  h.set t _ (by rw [rV_set, upto_step hv])
theorem RowAt.row {w : World} {b : Nat} {cs : Array Value} {T : TypeId} (h : RowAt w b cs T) (cs' : Array Value) : RowAt (w.setRow b cs') b cs' T := setRow_heap w b cs cs' T (0, 0) h
theorem RowAt.otherRow {w : World} {b g : Nat} {cs : Array Value} {T : TypeId} (h : RowAt w b cs T) (hne : b ≠ g) (cs' : Array Value) : RowAt (w.setRow g cs') b cs T := by
  unfold RowAt
  rw [setRow_other w g b cs' hne]
  exact h

/-! ### Words -/
def xr (a b : Int) : Int := bits .xor .u64 a b
def an (a b : Int) : Int := bits .and .u64 a b
/-- All bits turned over. -/
def nt (a : Int) : Int := bits .xor .u64 IntKind.u64.max a
/-- Turned round by 's' bits, to the left. -/
def rl (a : Int) (s : Nat) : Int := bits .or .u64 (IntKind.u64.wrap (a * 2 ^ s)) (a / 2 ^ (64 - s))
def InW (a : Int) : Prop := 0 ≤ a ∧ a < 18446744073709551616

/-! ### A round -/
def thC (A : NF) (x : Nat) : Int := xr (xr (xr (xr (A x) (A (x + 5))) (A (x + 10))) (A (x + 15))) (A (x + 20))
def thD (A : NF) (x : Nat) : Int := xr (thC A ((x + 4) % 5)) (rl (thC A ((x + 1) % 5)) 1)
def rho (A : NF) (turnsBy places : Nat → Nat) : Nat → NF
  | 0 => fun _ => 0
  | i + 1 => upd (rho A turnsBy places i) (places i) (rl (xr (A i) (thD A (i % 5))) (turnsBy i))
def chi (B : NF) (i : Nat) : Int := xr (B i) (an (nt (B (i / 5 * 5 + (i + 1) % 5))) (B (i / 5 * 5 + (i + 2) % 5)))
def rnd (A : NF) (turnsBy places : Nat → Nat) (last : Int) : NF := upd (chi (rho A turnsBy places 25)) 0 (xr (chi (rho A turnsBy places 25) 0) last)

/-! ### By how much words are turned, and where they come -/
def tXY : Nat → Nat × Nat
  | 0 => (1, 0)
  | t + 1 => ((tXY t).2, (2 * (tXY t).1 + 3 * (tXY t).2) % 5)
def updN (A : Nat → Nat) (i v : Nat) : Nat → Nat := fun j => if j = i then v else A j
def byT : Nat → Nat → Nat
  | 0 => fun _ => 0
  | t + 1 => updN (byT t) ((tXY t).1 + 5 * (tXY t).2) ((t + 1) * (t + 2) / 2 % 64)
def toT (i : Nat) : Nat := i / 5 + 5 * ((2 * (i % 5) + 3 * (i / 5)) % 5)
theorem tXY_lt : ∀ t, (tXY t).1 < 5 ∧ (tXY t).2 < 5
  | 0 => by decide
  | t + 1 => ⟨(tXY_lt t).2, by show (2 * (tXY t).1 + 3 * (tXY t).2) % 5 < 5; omega⟩
theorem toT_lt {i : Nat} (h : i < 25) : toT i < 25 := by unfold toT; omega
theorem byT_lt : ∀ t i, byT t i < 64
  | 0, i => by simp [byT]
  | t + 1, i => by
    unfold byT updN
    split
    · omega
    · exact byT_lt t i
/-- The same as numbers of a row. -/
abbrev asI (A : Nat → Nat) : NF := fun i => (A i : Int)

/-- What the rounds' last steps turn. -/
def rcL : List Int := [0x0000000000000001, 0x0000000000008082, 0x800000000000808a, 0x8000000080008000, 0x000000000000808b, 0x0000000080000001,
  0x8000000080008081, 0x8000000000008009, 0x000000000000008a, 0x0000000000000088, 0x0000000080008009, 0x000000008000000a,
  0x000000008000808b, 0x800000000000008b, 0x8000000000008089, 0x8000000000008003, 0x8000000000008002, 0x8000000000000080,
  0x000000000000800a, 0x800000008000000a, 0x8000000080008081, 0x8000000000008080, 0x0000000080000001, 0x8000000080008008]
def rcC (i : Nat) : Int := rcL.getD i 0
def mixN (A : NF) : Nat → NF
  | 0 => A
  | k + 1 => rnd (mixN A k) (byT 24) toT (rcC k)
/-- A state, mixed. -/
def mixF (A : NF) : NF := mixN A 24
end Go.Proofs.Ytefmlbckbhlgdaa
namespace Go.Proofs.Ytefmlbckbhlgdaa
open Go.RowKit
section
variable {P : Program} {ops : Array Oper} {es : List Nat} {his : Nat → Nat} {Ws : Nat → World}
theorem stg_load_row {Q : Act → Prop} {k : Nat} {a : Act} {o : Oper} {rest : List Oper} (n : Nat) (hk : (!es.contains k && his k == n) = true) (hgd : o.guard = none) (ty : TypeId) (x : Operand) (ho : o.op = .load ty x)
    (g : Nat) (hx : a.eval x = .pointer (some ⟨g, 0, none⟩)) (t : TypeId) (cs : Array Value) (fr : Nat × Nat) (d : TypeDesc) (hg : ∀ s, s ≤ n → (Ws s).heap[g]? = some (.cells cs t fr))
    (hu : P.underlying ty = some d) (hd : (match d with | .struct _ | .array _ _ => true | _ => false) = true) (hi : (P.info? ty).map (·.size) = some cs.size)
    (h : wpStg P ops es his Ws Q (k + 1) rest (a.put o.dst (.agg cs))) : wpStg P ops es his Ws Q k (o :: rest) a := by
  refine stg_step n hk fun K hK => ?_
  unfold Region.wanted
  rw [hgd]
  simp only [if_true]
  refine ⟨.agg cs, fun s => ?_, hK _ h⟩
  unfold Oper.quietAt execOp
  simp only [ho, hx, Instr.loadAt, Instr.sureAddr, Sem.run_bind, Sem.run_pure, Result.andThen_ok, run_loadVar_row (Ws s.1) g t ty cs fr d (hg s.1 s.2) hu hd hi]
  exact ⟨rfl, rfl⟩

/-- A store of a whole row, as an effect. -/
theorem eff_store_row {a : Act} {o : Oper} {w w1 : World} (ty : TypeId) (x y : Operand) (ho : o.op = .store ty x y)
    (g : Nat) (cells : Array Value) (hx : a.eval x = .pointer (some ⟨g, 0, none⟩)) (hy : a.eval y = .agg cells)
    (t : TypeId) (old : Array Value) (hg : w.heap[g]? = some (.cells old t (0, 0))) (hi : (P.info? ty).map (·.size) = some cells.size)
    (hold : old.size = cells.size) (h1 : cells.all (·.oneCell') = true) (hw : w1 = w.setRow g cells) : effUpon w1 undef ((execOp a.eval o).run P w) := by
  unfold execOp
  simp only [ho, hx, hy, Instr.storeAt, Instr.sureAddr, Sem.run_bind, Sem.run_pure, Result.andThen_ok, run_storeVar_row w g t ty old cells hg hi hold h1]
  exact ⟨hw.symm, rfl⟩

/-- A row built out of what is written, as it reads. -/
theorem wpList_build_to {rest : List Oper} {o : Oper} {a : Act} {w : World} {Q : Exit → Act → World → Prop} (hg : o.guard = none) (t : TypeId) (parts : Array (Nat × Operand)) (ho : o.op = .build t parts) (cs : Array Value)
    (hf : P.built t (parts.map fun (i, x) => (i, a.eval x)).toList = some cs) (h : wpList P ops Q rest (a.put o.dst (.agg cs)) w) : wpList P ops Q (o :: rest) a w :=
  wpList_build hg t parts ho (by rw [hf]; rfl) (by rw [hf]; exact h)

/-- Two results that lie in whole rows. -/
theorem results_row2 {fn : Func} {p q : Tmp} {ty ty2 : TypeId} (h : fn.results = #[.cell p ty, .cell q ty2]) (tmps : Array Value) (w : World) (g g2 : Nat) (t t2 : TypeId) (cs cs2 : Array Value) (d d2 : TypeDesc)
    (hp : tmps.getD p undef = .pointer (some ⟨g, 0, none⟩)) (hq : tmps.getD q undef = .pointer (some ⟨g2, 0, none⟩)) (hg : RowAt w g cs t) (hg2 : RowAt w g2 cs2 t2)
    (hu : P.underlying ty = some d) (hd : (match d with | .struct _ | .array _ _ => true | _ => false) = true) (hi : (P.info? ty).map (·.size) = some cs.size)
    (hu2 : P.underlying ty2 = some d2) (hd2 : (match d2 with | .struct _ | .array _ _ => true | _ => false) = true) (hi2 : (P.info? ty2).map (·.size) = some cs2.size) :
    (results fn tmps).run P w = .ok (.tuple #[.agg cs, .agg cs2]) w := by
  have hp' : tmps[p]?.getD undef = .pointer (some ⟨g, 0, none⟩) := by simpa using hp
  have hq' : tmps[q]?.getD undef = .pointer (some ⟨g2, 0, none⟩) := by simpa using hq
  simp [results, h, hp', hq', asAddr, run_loadVar_row w g t ty cs _ d hg hu hd hi, run_loadVar_row w g2 t2 ty2 cs2 _ d2 hg2 hu2 hd2 hi2]
end
end Go.Proofs.Ytefmlbckbhlgdaa
