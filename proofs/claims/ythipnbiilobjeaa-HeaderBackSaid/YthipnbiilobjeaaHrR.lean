/- Header: what header.Read answers, in plain words; read of what was written, and back. -/
import Derived.Test.YthipnbiilobjeaaFrBack
import Derived.Test.YthipnbiilobjeaaFu2
namespace Go.Proofs.Ythipnbiilobjeaa
open Go.RowKit Go.Shelf
set_option maxRecDepth 100000

/-- What a header's bytes say, ahead of the look at them. -/
structure Raw where
  pa : ByteArray
  ht : Nat
  ro : ByteArray
  tx : ByteArray
  pr : ByteArray
  va : ByteArray
  vs : List ByteArray
  vo : ByteArray
  ad : Nat
  rd : Nat
  ss : List ByteArray
def rawF (x : Raw) : List Fd := [bF x.pa, nF x.ht, bF x.ro, bF x.tx, bF x.pr, bF x.va, lF (x.vs.map bF), bF x.vo, nF x.ad, nF x.rd, lF (x.ss.map bF)]
def Raw.ok (x : Raw) : Prop := (∀ s ∈ x.ss, s.size = 65) ∧ x.ht < 18446744073709551616 ∧ x.ad < 18446744073709551616 ∧ x.rd < 18446744073709551616 ∧ x.vs.length ≤ 40 ∧ x.ss.length ≤ 40

theorem tr_eta {α : Type} (t : Tr α) : t = .mk t.val t.kids := by cases t; rfl
theorem itemK_b {f : Fd} {x : It} {c : UInt8} (hc : c ≠ 110 ∧ c ≠ 42 ∧ c ≠ 40) (h : itemK (.mk c []) f = some x) : ∃ s : ByteArray, f = bF s ∧ (c = 115 → s.size = 65) := by
  obtain ⟨⟨n, b⟩, l⟩ := f
  rw [itemK] at h
  rw [if_neg hc.1] at h
  have hb : bF (mkS b) = .mk (0, b) [] := by show Tr.mk (0, bl (mkS b)) [] = _; rw [bl_mk]
  by_cases h98 : c = 98
  · rw [if_pos h98] at h
    split at h
    · rename_i h1
      obtain ⟨rfl, rfl, _⟩ := h1
      exact ⟨mkS b, hb.symm, fun e => by rw [h98] at e; exact absurd e (by decide)⟩
    · cases h
  · rw [if_neg h98, if_neg hc.2.1, if_neg hc.2.2] at h
    split at h
    · rename_i h1
      obtain ⟨rfl, rfl, h2⟩ := h1
      refine ⟨mkS b, hb.symm, fun e => ?_⟩
      subst e
      rw [mk_size]
      have : sizeK 115 = 65 := by decide
      omega
    · cases h
theorem itemK_n {f : Fd} {x : It} (h : itemK (.mk 110 []) f = some x) : ∃ n : Nat, f = nF n := by
  obtain ⟨⟨n, b⟩, l⟩ := f
  rw [itemK, if_pos rfl] at h
  split at h
  · rename_i h1
    obtain ⟨rfl, rfl⟩ := h1
    exact ⟨n, rfl⟩
  · cases h
theorem mapM_bs {c : UInt8} (hc : c ≠ 110 ∧ c ≠ 42 ∧ c ≠ 40) : ∀ {l : List Fd} {xs : List It}, l.mapM (itemK (.mk c [])) = some xs → ∃ ss : List ByteArray, l = ss.map bF ∧ (c = 115 → ∀ s ∈ ss, s.size = 65)
  | [], _, _ => ⟨[], rfl, fun _ s h => by cases h⟩
  | f :: l, xs, h => by
    rw [List.mapM_cons] at h
    obtain ⟨y, h1, h2⟩ := Option.bind_eq_some_iff.1 h
    obtain ⟨ys, h3, _⟩ := Option.bind_eq_some_iff.1 h2
    obtain ⟨s, rfl, e1⟩ := itemK_b hc h1
    obtain ⟨ss, rfl, e2⟩ := mapM_bs hc h3
    refine ⟨s :: ss, rfl, fun e t ht => ?_⟩
    rcases List.mem_cons.1 ht with rfl | ht
    · exact e1 e
    · exact e2 e t ht
theorem itemK_l {f : Fd} {x : It} {c : UInt8} (hc : c ≠ 110 ∧ c ≠ 42 ∧ c ≠ 40) (h : itemK (.mk 42 [.mk c []]) f = some x) : ∃ ss : List ByteArray, f = lF (ss.map bF) ∧ ss.length ≤ 40 ∧ (c = 115 → ∀ s ∈ ss, s.size = 65) := by
  obtain ⟨⟨n, b⟩, l⟩ := f
  rw [itemK, if_neg (by decide), if_neg (by decide), if_pos rfl] at h
  split at h
  · rename_i h1
    obtain ⟨rfl, rfl, h2⟩ := h1
    obtain ⟨xs, h3, _⟩ := Option.map_eq_some_iff.1 h
    rw [starI] at h3
    obtain ⟨ss, rfl, e2⟩ := mapM_bs hc h3
    exact ⟨ss, rfl, by simpa using h2, e2⟩
  · cases h
theorem rowI_cons {k : Kd} {ks : List Kd} {l : List Fd} {xs : List It} (h : rowI (k :: ks) l = some xs) : ∃ f l' x xs', l = f :: l' ∧ itemK k f = some x ∧ rowI ks l' = some xs' := by
  cases l with
  | nil => rw [rowI] at h; cases h
  | cons f l =>
    rw [rowI] at h
    obtain ⟨x, h1, h2⟩ := Option.bind_eq_some_iff.1 h
    obtain ⟨xs', h3, _⟩ := Option.map_eq_some_iff.1 h2
    exact ⟨f, l, x, xs', rfl, h1, h3⟩
theorem rowI_nil {l : List Fd} {xs : List It} (h : rowI [] l = some xs) : l = [] := by
  cases l with
  | nil => rfl
  | cons f l => rw [rowI] at h; cases h

theorem raw_of {s : List UInt8} {l : List Fd} (h : readF hform s = (l, 0)) : ∃ x : Raw, l = rawF x ∧ x.ok := by
  have hf := read_ok h
  have hw := written_read h
  unfold writeF at hw
  rw [hkinds_ok] at hw
  simp only at hw
  split at hw
  · cases hx : itemsT (.mk 40 hkinds) l with
    | none => rw [hx] at hw; cases hw
    | some y =>
      rw [itemsT, if_neg (by decide)] at hx
      obtain ⟨xs, h1, _⟩ := Option.map_eq_some_iff.1 hx
      unfold hkinds at h1
      obtain ⟨f0, l, x0, xs, rfl, k0, h1⟩ := rowI_cons h1
      obtain ⟨f1, l, x1, xs, rfl, k1, h1⟩ := rowI_cons h1
      obtain ⟨f2, l, x2, xs, rfl, k2, h1⟩ := rowI_cons h1
      obtain ⟨f3, l, x3, xs, rfl, k3, h1⟩ := rowI_cons h1
      obtain ⟨f4, l, x4, xs, rfl, k4, h1⟩ := rowI_cons h1
      obtain ⟨f5, l, x5, xs, rfl, k5, h1⟩ := rowI_cons h1
      obtain ⟨f6, l, x6, xs, rfl, k6, h1⟩ := rowI_cons h1
      obtain ⟨f7, l, x7, xs, rfl, k7, h1⟩ := rowI_cons h1
      obtain ⟨f8, l, x8, xs, rfl, k8, h1⟩ := rowI_cons h1
      obtain ⟨f9, l, x9, xs, rfl, k9, h1⟩ := rowI_cons h1
      obtain ⟨f10, l, x10, xs, rfl, k10, h1⟩ := rowI_cons h1
      obtain rfl := rowI_nil h1
      obtain ⟨pa, rfl, _⟩ := itemK_b (by decide) k0
      obtain ⟨ht, rfl⟩ := itemK_n k1
      obtain ⟨ro, rfl, _⟩ := itemK_b (by decide) k2
      obtain ⟨tx, rfl, _⟩ := itemK_b (by decide) k3
      obtain ⟨pr, rfl, _⟩ := itemK_b (by decide) k4
      obtain ⟨va, rfl, _⟩ := itemK_b (by decide) k5
      obtain ⟨vs, rfl, v40, _⟩ := itemK_l (by decide) k6
      obtain ⟨vo, rfl, _⟩ := itemK_b (by decide) k7
      obtain ⟨ad, rfl⟩ := itemK_n k8
      obtain ⟨rd, rfl⟩ := itemK_n k9
      obtain ⟨ss, rfl, s40, hss⟩ := itemK_l (by decide) k10
      have o1 := fsOk_mem hf (nF ht) (by simp)
      have o8 := fsOk_mem hf (nF ad) (by simp)
      have o9 := fsOk_mem hf (nF rd) (by simp)
      exact ⟨⟨pa, ht, ro, tx, pr, va, vs, vo, ad, rd, ss⟩, rfl, hss rfl, o1.1, o8.1, o9.1, v40, s40⟩
  · cases hw

def fdAt (l : List Fd) (i : Nat) : Fd := l.getD i (.mk (0, []) [])
def fdB (f : Fd) : ByteArray := mkS f.val.2
def rawL (l : List Fd) : Raw := ⟨fdB (fdAt l 0), (fdAt l 1).val.1, fdB (fdAt l 2), fdB (fdAt l 3), fdB (fdAt l 4), fdB (fdAt l 5), (fdAt l 6).kids.map fdB, fdB (fdAt l 7), (fdAt l 8).val.1, (fdAt l 9).val.1, (fdAt l 10).kids.map fdB⟩
theorem fdB_bF (s : ByteArray) : fdB (bF s) = s := mkS_bl s
theorem map_fdB (l : List ByteArray) : (l.map bF).map fdB = l := by
  rw [List.map_map]
  conv => rhs; rw [← List.map_id l]
  exact List.map_congr_left (fun s _ => fdB_bF s)
theorem rawL_rawF (x : Raw) : rawL (rawF x) = x := by
  obtain ⟨pa, ht, ro, tx, pr, va, vs, vo, ad, rd, ss⟩ := x
  have e : rawL (rawF ⟨pa, ht, ro, tx, pr, va, vs, vo, ad, rd, ss⟩) = ⟨fdB (bF pa), ht, fdB (bF ro), fdB (bF tx), fdB (bF pr), fdB (bF va), (vs.map bF).map fdB, fdB (bF vo), ad, rd, (ss.map bF).map fdB⟩ := rfl
  rw [e]
  simp only [fdB_bF, map_fdB]

def toH (x : Raw) : Hd := ⟨x.pa, x.ht, x.ro, x.tx, x.pr, x.va, x.vs, x.vo, decide (x.ad = 1), x.rd, x.ss.map sgFrom⟩
def zHd : Hd := ⟨⟨#[]⟩, 0, ⟨#[]⟩, ⟨#[]⟩, ⟨#[]⟩, ⟨#[]⟩, [], ⟨#[]⟩, false, 0, []⟩
noncomputable def seenH (x : Raw) : Hd × Int := if x.ad ≤ 1 ∧ hdL (toH x) = true then (toH x, 0) else (zHd, 4)
/-- What header.Read answers. -/
noncomputable def readH (s : List UInt8) : Hd × Int := if (readF hform s).2 = 0 then seenH (rawL (readF hform s).1) else (zHd, 4)

theorem hdF_raw (h : Hd) : hdF h = rawF ⟨h.pa, h.ht.toNat, h.ro, h.tx, h.pr, h.va, h.val, h.vo, if h.ad = true then 1 else 0, h.rd.toNat, h.se.map sealB⟩ := rfl
theorem readH_rec {h : Hd} (hk : HdOk h) (hn : HdNum h) (ho : ∀ s ∈ h.se, s.ok) : readH (recL h).1 = (h, 0) := by
  have hr := (rec_ok hk hn).1
  have hw : writeF hform (hdF h) = ((recL h).1, 0) := by
    show recL h = _
    rw [hr]
  have hrd := read_written hw (hdF_ok hn)
  unfold readH
  rw [hrd]
  rw [if_pos rfl, hdF_raw, rawL_rawF]
  have ht : toH ⟨h.pa, h.ht.toNat, h.ro, h.tx, h.pr, h.va, h.val, h.vo, if h.ad = true then 1 else 0, h.rd.toNat, h.se.map sealB⟩ = h := by
    obtain ⟨⟨n1, n2⟩, n3, n4⟩ := hn
    have hse : (h.se.map sealB).map sgFrom = h.se := by
      rw [List.map_map]
      conv => rhs; rw [← List.map_id h.se]
      exact List.map_congr_left (fun s hs => from_sealB (ho s hs) (hk.2.2.2.2.2.2.2.2 s hs))
    obtain ⟨pa, ht, ro, tx, pr, va, val, vo, ad, rd, se⟩ := h
    simp only at n1 n3 hse
    unfold toH
    simp only [hse]
    have e1 : ((ht.toNat : Nat) : Int) = ht := Int.toNat_of_nonneg n1
    have e2 : ((rd.toNat : Nat) : Int) = rd := Int.toNat_of_nonneg n3
    rw [e1, e2]
    cases ad <;> rfl
  unfold seenH
  rw [ht, hdL_true hk, if_pos ⟨by show (if h.ad = true then 1 else 0) ≤ 1; split <;> omega, rfl⟩]
theorem readH_bad {s : List UInt8} (h : (readH s).2 ≠ 0) : readH s = (zHd, 4) := by
  unfold readH seenH at *
  split at h
  · rename_i e
    rw [if_pos e]
    split at h
    · exact absurd rfl h
    · rename_i e2
      rw [if_neg e2]
  · rename_i e
    rw [if_neg e]
theorem hdOk_of {h : Hd} (e : hdL h = true) : HdOk h := by
  by_cases hh : HdOk h
  · exact hh
  · rw [hdL_false hh] at e; cases e
theorem ad_back {ad : Nat} (h : ad ≤ 1) : (if decide (ad = 1) = true then 1 else 0) = ad := by
  match ad, h with
  | 0, _ => rfl
  | 1, _ => rfl
  | n + 2, h => omega
theorem hdF_toH {x : Raw} (h1 : x.ad ≤ 1) (hse : (x.ss.map sgFrom).map sealB = x.ss) : hdF (toH x) = rawF x := by
  have e : hdF (toH x) = [bF x.pa, nF ((x.ht : Nat) : Int).toNat, bF x.ro, bF x.tx, bF x.pr, bF x.va, lF (x.vs.map bF), bF x.vo, nF (if decide (x.ad = 1) = true then 1 else 0), nF ((x.rd : Nat) : Int).toNat, lF (((x.ss.map sgFrom).map sealB).map bF)] := rfl
  rw [e, hse, Int.toNat_natCast, Int.toNat_natCast, ad_back h1]
  rfl
theorem readH_ok {s : List UInt8} (h : (readH s).2 = 0) : HdOk (readH s).1 ∧ HdNum (readH s).1 ∧ (∀ g ∈ (readH s).1.se, g.ok) ∧ recL (readH s).1 = (s, 0) := by
  unfold readH at h
  split at h
  · rename_i e
    have hr : readF hform s = ((readF hform s).1, 0) := by rw [← e]
    obtain ⟨x, hx, ⟨o1, o2, o3, o4, -, -⟩⟩ := raw_of hr
    have e1 : readH s = seenH x := by
      unfold readH
      rw [if_pos e, hx, rawL_rawF]
    rw [hx, rawL_rawF] at h
    rw [e1]
    have hw := written_read hr
    rw [hx] at hw
    unfold seenH at *
    split at h
    · rename_i hc
      rw [if_pos hc]
      have hk := hdOk_of hc.2
      have hs := hk.2.2.2.2.2.2.2.2
      refine ⟨hk, ⟨⟨Int.natCast_nonneg _, by show (x.ht : Int) < _; omega⟩, ⟨Int.natCast_nonneg _, by show (x.rd : Int) < _; omega⟩⟩, fun g hg => ?_, ?_⟩
      · obtain ⟨t, _, rfl⟩ := List.mem_map.1 hg
        exact sgFrom_ok t
      · show writeF hform (hdF (toH x)) = (s, 0)
        have hse : (x.ss.map sgFrom).map sealB = x.ss := by
          rw [List.map_map]
          conv => rhs; rw [← List.map_id x.ss]
          refine List.map_congr_left (fun t ht => ?_)
          have hm : sgFrom t ∈ x.ss.map sgFrom := List.mem_map.2 ⟨t, ht, rfl⟩
          have hg : sigOk (sgFrom t) = true := hs (sgFrom t) hm
          have hq := sealB_from (o1 t ht) hg
          rw [Function.comp_apply, hq, id]
        rw [hdF_toH hc.1 hse]
        exact hw
    · cases h
  · cases h
end Go.Proofs.Ythipnbiilobjeaa
