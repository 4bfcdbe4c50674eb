/- VsetParts: the walk. -/
import Derived.Test.YthipnbiilobjeaaVs7
import Derived.Test.YthipnbiilobjeaaLaterTail
import Derived.BigRegion
import Derived.BigQuiet
import Derived.Deep.DeepCutAuto
namespace Go.Proofs.Ythipnbiilobjeaa
open Go.RowKit Go.Shelf

theorem map_set_step {α : Type} {f : α → α} {L : List α} {k : Nat} (h : k < L.length) : ((L.take k).map f ++ L.drop k).set k (f L[k]) = (L.take (k + 1)).map f ++ L.drop (k + 1) := by
  have hl : ((L.take k).map f).length = k := by simp; omega
  rw [List.set_append_right _ _ (by omega), hl, Nat.sub_self, List.drop_eq_getElem_cons h, List.set_cons_zero, List.take_add_one, List.getElem?_eq_getElem h, List.map_append, List.append_assoc]
  rfl
theorem map_mid {α : Type} {f : α → α} {L : List α} {k : Nat} (h : k < L.length) : ((L.take k).map f ++ L.drop k)[k]? = some L[k] := by
  have hl : ((L.take k).map f).length = k := by simp; omega
  rw [List.getElem?_append_right (by omega), hl, Nat.sub_self, List.drop_eq_getElem_cons h]
  rfl

theorem OwnE.at11 {w : World} {base g n c k : Nat} {L : List HS} {x : HS} (h : OwnE encH 36 w base (.slice (some ⟨g, 0, none⟩) n c) L) (hx : L[k]? = some x) :
    (w.cell? ⟨g, k * 11, none⟩ = some (.string x.1.pa) ∧ w.cell? ⟨g, k * 11 + 1, none⟩ = some (.int .u64 x.1.ht) ∧ w.cell? ⟨g, k * 11 + 2, none⟩ = some (.string x.1.ro) ∧ w.cell? ⟨g, k * 11 + 3, none⟩ = some (.string x.1.tx) ∧ w.cell? ⟨g, k * 11 + 4, none⟩ = some (.string x.1.pr) ∧ w.cell? ⟨g, k * 11 + 5, none⟩ = some (.string x.1.va) ∧ w.cell? ⟨g, k * 11 + 6, none⟩ = some (x.sv) ∧ w.cell? ⟨g, k * 11 + 7, none⟩ = some (.string x.1.vo) ∧ w.cell? ⟨g, k * 11 + 8, none⟩ = some (.bool x.1.ad) ∧ w.cell? ⟨g, k * 11 + 9, none⟩ = some (.int .u64 x.1.rd) ∧ w.cell? ⟨g, k * 11 + 10, none⟩ = some (x.gv)) ∧
    (w.frozen? ⟨g, k * 11, none⟩ = false ∧ w.frozen? ⟨g, k * 11 + 1, none⟩ = false ∧ w.frozen? ⟨g, k * 11 + 2, none⟩ = false ∧ w.frozen? ⟨g, k * 11 + 3, none⟩ = false ∧ w.frozen? ⟨g, k * 11 + 4, none⟩ = false ∧ w.frozen? ⟨g, k * 11 + 5, none⟩ = false ∧ w.frozen? ⟨g, k * 11 + 6, none⟩ = false ∧ w.frozen? ⟨g, k * 11 + 7, none⟩ = false ∧ w.frozen? ⟨g, k * 11 + 8, none⟩ = false ∧ w.frozen? ⟨g, k * 11 + 9, none⟩ = false ∧ w.frozen? ⟨g, k * 11 + 10, none⟩ = false) := by
  obtain ⟨g', e, _, _, h1, h2, _⟩ := OwnE.at h hx
  injection e with e
  injection e with e _ _
  subst e
  exact ⟨⟨h1 0 _ rfl, h1 1 _ rfl, h1 2 _ rfl, h1 3 _ rfl, h1 4 _ rfl, h1 5 _ rfl, h1 6 _ rfl, h1 7 _ rfl, h1 8 _ rfl, h1 9 _ rfl, h1 10 _ rfl⟩, h2 _, h2 _, h2 _, h2 _, h2 _, h2 _, h2 _, h2 _, h2 _, h2 _, h2 _⟩

/-- What stands while headers are gone through: a box in the block behind 'w4', with validators and votes. -/
def PtSt (w4 : World) (s : Value) (S : List ByteArray) (v : Value) (V : List Bal) (W : World) : Prop :=
  RowAt W w4.heap.size #[s, v] 45 ∧ RowE encS W s S ∧ RowE encB W v V ∧ Below w4.heap.size w4 W
theorem PtSt.next {w4 W W' : World} {s v : Value} {S : List ByteArray} {V : List Bal} (a : PtSt w4 s S v V W) (hb : Below W.heap.size W W') : PtSt w4 s S v V W' :=
  ⟨a.1.belowS hb, a.2.1.below encS hb (Nat.le_refl _), a.2.2.1.below encB hb (Nat.le_refl _), a.2.2.2.trans (hb.mono a.2.2.2.size)⟩
theorem PtSt.put {w4 W : World} {S : List ByteArray} {V : List Bal} {p q p2 q2 : Option Addr} {n m c d n2 m2 c2 d2 : Nat} {S2 : List ByteArray} {V2 : List Bal} (a : PtSt w4 (.slice p n c) S (.slice q m d) V W) (hs : RowE encS W (.slice p2 n2 c2) S2) (hvv : RowE encB W (.slice q2 m2 d2) V2) :
    PtSt w4 (.slice p2 n2 c2) S2 (.slice q2 m2 d2) V2 ((W.setCell ⟨w4.heap.size, 0, none⟩ (.slice p2 n2 c2)).setCell ⟨w4.heap.size, 1, none⟩ (.slice q2 m2 d2)) := by
  have r1 : RowAt (W.setCell ⟨w4.heap.size, 0, none⟩ (.slice p2 n2 c2)) w4.heap.size #[.slice p2 n2 c2, .slice q m d] 45 := a.1.set 0 _ rfl
  exact ⟨r1.set 1 _ rfl, RowE.setBox encS_ns (RowE.setBox encS_ns hs a.1 0 _) r1 1 _, RowE.setBox encB_ns (RowE.setBox encB_ns hvv a.1 0 _) r1 1 _,
    (a.2.2.2.setCell (p := ⟨w4.heap.size, 0, none⟩) (Nat.le_refl _) _).setCell (p := ⟨w4.heap.size, 1, none⟩) (Nat.le_refl _) _⟩
def OH (w : World) (base : Nat) (v : Value) (l : List HS) : Prop := OwnE encH 36 w base v l
theorem OH.below {w w' : World} {base : Nat} {v : Value} {l : List HS} {B : Nat} (h : OH w base v l) (hb : Below B w w') (hB : w.heap.size ≤ B) : OH w' base v l := OwnE.below encH h hb hB

theorem OwnE.base {α : Type} {E : Enc α} {T : TypeId} {w : World} {base : Nat} {p : Option Addr} {n c : Nat} {L : List α} (h : OwnE E T w base (.slice p n c) L) (hc : c ≠ 0) : ∃ g, p = some ⟨g, 0, none⟩ := by
  rcases h.2 with ⟨hv, _⟩ | ⟨g, cap, cur, hv, _⟩
  · injection hv with _ _ e
    exact absurd e hc
  · injection hv with e _ _
    exact ⟨g, e⟩

theorem cut_min (cut : Int) (n : Nat) : ∃ (mx : Int) (q : Nat), (if cut < 0 then 0 else cut) = mx ∧ (if (n : Int) < mx then (n : Int) else mx) = (q : Int) ∧ q ≤ n := by
  by_cases h : cut < 0
  · exact ⟨0, 0, by rw [if_pos h], by rw [if_neg (by omega)]; rfl, Nat.zero_le _⟩
  · by_cases h2 : (n : Int) < cut
    · exact ⟨cut, n, by rw [if_neg h], by rw [if_pos h2], Nat.le_refl _⟩
    · exact ⟨cut, cut.toNat, by rw [if_neg h], by rw [if_neg h2]; omega, by omega⟩

set_option maxRecDepth 100000 in
set_option maxHeartbeats 4000000 in
theorem vsetParts_walk (w : World) (v : Value) (S0 : List ByteArray) (hx : StrsRep w v S0) (vl : Value) (l : List HS) (hl : HdrsRep w vl l) (ep : Int) (wep : (Lit.int .u64 ep).wf = true) (cut : Int) (wcut : (Lit.int .i64 cut).wf = true) :
    Calls Try.prog 8 #[v, vl, .int .u64 ep, .int .i64 cut] w fun e w' => e = .returned (.bool true) ∧ Below w.heap.size w w' := by
  obtain ⟨pS, cS, rfl, s1, s2⟩ := RowE.shape encS hx
  obtain ⟨pl, cl, rfl, s3, s4⟩ := RowE.shape encH hl.1
  obtain ⟨m, h1, h2, h3⟩ := minIs_ex 20 (by omega) S0.length
  obtain ⟨n, j1, j2, j3⟩ := minIs_ex 20 (by omega) l.length
  have hS : RowE encS w (.slice pS m cS) (S0.take m) := RowE.take encS hx h2
  have hm : (S0.take m).length = m := by simp; omega
  have hL : RowE encH w (.slice pl n cl) (l.take n) := RowE.take encH hl.1 j2
  have hn : (l.take n).length = n := by simp; omega
  have hraw : ∀ x ∈ l.take n, HRaw w x := fun x hx => hl.2 x (List.mem_of_mem_take hx)
  generalize S0.take m = S at hS hm
  generalize l.take n = L at hL hn hraw
  have bep := bounds_u64 wep
  have bcut := bounds_i64 wcut
  have HRA := Lib.hid hraw
  have HS0 := Lib.hid hS
  have O := Lib.hid (OwnE.start encH (T := 36) (w := w) (Nat.le_refl w.heap.size))
  have R := Lib.hid (RowE.below encH hL ((Below.refl w.heap.size w).alloc (Nat.le_refl _) (.cells #[] 36)) (Nat.le_refl _))
  subst hm
  subst hn
  clear hl hS hx hraw hL wep wcut
  unfold maxLen at s2 s4
  go_enter Try.func8, Try.ntmps8
  go_wp2_with (at_builtin; refine wpList_append_rowE encH Try.underlying46 info_hd rfl rfl _ _ rfl w.heap.size _ [] rfl O.out _ L rfl R.out (by unfold maxLen; simp; omega) (by simp; omega) (by simp) ?_)
  intro v1 w1 ho hb hz hnil
  obtain ⟨p1, c1, rfl, k1, k2⟩ := RowE.shape encH (OwnE.row encH ho)
  have HO := Lib.hid (show OwnE encH 36 w1 w.heap.size (.slice p1 L.length c1) ((L.take 0).map fewH ++ L.drop 0) from ho)
  have HB := Lib.hid (hb _ ((Below.refl w.heap.size w).alloc (Nat.le_refl _) _))
  clear ho hb hnil hz O R s1 s3 h1 h2 j1 j2 s2 s4
  unfold maxLen at k2
  go_wp2
  go_loopw [31] (fun c wr => ∃ k : Nat, k ≤ L.length ∧ c = .int .i64 k ∧ Hid (OwnE encH 36 wr w.heap.size (.slice p1 L.length c1) ((L.take k).map fewH ++ L.drop k)) ∧ Hid (Below w.heap.size w wr)) (fun c _ => L.length - (intOf c).toNat)
  case atStart => exact ⟨0, Nat.zero_le _, rfl, HO, HB⟩
  case round =>
    obtain ⟨k, hk, rfl, ho, hb⟩ := hrel
    clear HO HB
    have HO := Lib.hid ho.out
    have HB := Lib.hid hb.out
    clear ho hb
    by_cases hlt : k < L.length
    · obtain ⟨g, rfl, g1, g2, g3, g4, g5⟩ := OwnE.at HO.out (map_mid (f := fewH) hlt)
      have hset := map_set_step (f := fewH) hlt
      have hraw := HRA.out L[k] (List.getElem_mem hlt)
      have KF := fun W => hraw.call W
      have HM := map_mid (f := fewH) hlt
      have HSET := hset
      generalize hy : fewH L[k] = y at *
      generalize L[k] = x at *
      have hg2 : g < wr.heap.size := g2
      obtain ⟨x, ⟨pv, cv⟩, ⟨pg, cg⟩⟩ := x
      obtain ⟨pa, ht, ro, tx, pr, va, val, vo, ad, rd, se⟩ := x
      obtain ⟨y, ⟨qv, dv⟩, ⟨qg, dg⟩⟩ := y
      obtain ⟨pa', ht', ro', tx', pr', va', val', vo', ad', rd', se'⟩ := y
      obtain ⟨⟨c0, c1', c2, c3, c4, c5, c6, c7, c8, c9, c10⟩, -⟩ := OwnE.at11 HO.out HM
      simp only [HS.sv, HS.gv] at c0 c1' c2 c3 c4 c5 c6 c7 c8 c9 c10
      replace KF : ∀ W, Calls Try.prog 29 #[.agg #[.string pa, .int .u64 ht, .string ro, .string tx, .string pr, .string va, .slice pv val.length cv, .string vo, .bool ad, .int .u64 rd, .slice pg se.length cg]] W fun e w' => e = .returned (.agg #[.string pa', .int .u64 ht', .string ro', .string tx', .string pr', .string va', .slice qv val'.length dv, .string vo', .bool ad', .int .u64 rd', .slice qg se'.length dg]) ∧ Below W.heap.size W w' := KF
      replace KF := Lib.hid KF
      replace HM := Lib.hid HM
      replace HSET := Lib.hid HSET
      clear g3 hset hraw hy g5 g4
      go_wp2_with (go_at_call 29; refine (KF.out _).mono ?_; rintro e w2 ⟨rfl, hb2⟩; have HO2 := Lib.hid (OwnE.below encH HO.out hb2 (Nat.le_refl _)); have HB2 := Lib.hid (HB.out.trans (hb2.mono HB.out.size)); clear hb2 c0 c1' c2 c3 c4 c5 c6 c7 c8 c9 c10; obtain ⟨⟨c0, c1', c2, c3, c4, c5, c6, c7, c8, c9, c10⟩, ⟨f0, f1, f2, f3, f4, f5, f6, f7, f8, f9, f10⟩⟩ := OwnE.at11 HO2.out HM.out; simp only [HS.sv, HS.gv] at c0 c1' c2 c3 c4 c5 c6 c7 c8 c9 c10)
      obtain ⟨g', e1, _, _, _, _, hlay⟩ := OwnE.at HO2.out HM.out
      injection e1 with e1
      injection e1 with e1 _ _
      subst e1
      have hfin := hlay (⟨pa', ht', ro', tx', pr', va', val', vo', ad', rd', se'⟩, (qv, dv), (qg, dg)) w2 (fun _ h => h)
      rw [HSET.out] at hfin
      have hfb := layW_below (encH.cells (⟨pa', ht', ro', tx', pr', va', val', vo', ad', rd', se'⟩, (qv, dv), (qg, dg))) w2 w g (k * 11) w.heap.size HB2.out g1
      exact ⟨⟨k + 1, by omega, by simp, Lib.hid hfin, Lib.hid hfb⟩, by simp [intOf]; omega⟩
    · obtain rfl : k = L.length := by omega
      have HM : Hid (OwnE encH 36 wr w.heap.size (.slice p1 L.length c1) (L.map fewH)) := Lib.hid (by have := HO.out; rwa [List.take_length, List.drop_length, List.append_nil] at this)
      have hok : ∀ x ∈ L.map fewH, HsOk w x := fun x hx => by
        obtain ⟨y, hy, rfl⟩ := List.mem_map.1 hx
        exact (HRA.out y hy).few
      have hlen : (L.map fewH).length = L.length := by simp
      generalize L.map fewH = M at *
      have HOK := Lib.hid hok
      clear HO hok HRA hlt hk
      obtain ⟨mx, q, hmx, hq, hqn⟩ := cut_min cut L.length
      have HF := Lib.hid (foldF_parts S M ep q)
      have KF1 := fold_any _ S _ M ep wr (HS0.out.below encS HB.out (Nat.le_refl _)) (OwnE.row encH HM.out) (fun x hx => (HOK.out x hx).below HB.out) (by omega) (by omega) bep.1
      have KF2 := fun W (h1 : RS W (.slice pS S.length cS) S) (h2 : RowE encH W (.slice p1 q c1) (M.take q)) (h3 : ∀ x ∈ M.take q, HsOk W x) => fold_any _ S _ (M.take q) ep W h1 h2 h3 (by simp; omega) (by omega) bep.1
      have hb1 : foldF S M ep = foldF S M ep := rfl
      have HBAD1 := Lib.hid (fun h => foldF_bad (S := S) (l := M.take q) (ep := ep) h)
      generalize foldF S M ep = r at *
      generalize foldF S (M.take q) ep = r2 at *
      obtain ⟨X, VX, cx⟩ := r
      obtain ⟨Y, VY, cy⟩ := r2
      clear hb1
      replace KF1 := Lib.hid KF1
      replace KF2 := Lib.hid KF2
      have HM2 : Hid (OH wr w.heap.size (.slice p1 L.length c1) M) := HM
      have HS2 : Hid (RS wr (.slice pS S.length cS) S) := Lib.hid (RowE.below encS HS0.out HB.out (Nat.le_refl _))
      clear HM
      go_upto_region 10 with (go_at_call 32; refine KF1.out.mono ?_; rintro e w2 ⟨pX, cX, pVX, cVX, rfl, hX, hVX, hb, n1, n2⟩; simp only at hX hVX n1 n2; have HX := Lib.hid hX; have HVX := Lib.hid hVX; clear hX hVX; (replace HM2 := Lib.hid (HM2.out.below hb (Nat.le_refl _)); replace HS2 := Lib.hid (HS2.out.below hb (Nat.le_refl _)); replace HB := Lib.hid (HB.out.trans (hb.mono HB.out.size)); clear hb); clear KF1)
      (replace HM2 := Lib.hid (HM2.out.below ((Below.refl (w2).heap.size (w2)).alloc (Nat.le_refl _) (.cells #[.slice pX X.length cX, .slice pVX VX.length cVX] 45)) (Nat.le_refl _)); replace HS2 := Lib.hid (HS2.out.below ((Below.refl (w2).heap.size (w2)).alloc (Nat.le_refl _) (.cells #[.slice pX X.length cX, .slice pVX VX.length cVX] 45)) (Nat.le_refl _)); replace HX := Lib.hid (HX.out.below ((Below.refl (w2).heap.size (w2)).alloc (Nat.le_refl _) (.cells #[.slice pX X.length cX, .slice pVX VX.length cVX] 45)) (Nat.le_refl _)); replace HVX := Lib.hid (HVX.out.below ((Below.refl (w2).heap.size (w2)).alloc (Nat.le_refl _) (.cells #[.slice pX X.length cX, .slice pVX VX.length cVX] 45)) (Nat.le_refl _)); replace HB := Lib.hid (HB.out.alloc HB.out.size (.cells #[.slice pX X.length cX, .slice pVX VX.length cVX] 45)))
      have R10 := Lib.hid (RowAt.new w2 #[.slice pX X.length cX, .slice pVX VX.length cVX] 45)
      generalize w2.alloc (.cells #[.slice pX X.length cX, .slice pVX VX.length cVX] 45) = w3 at *
      generalize w2.heap.size = k10 at *
      have hr2 : RowE encH w3 (.slice p1 q c1) (M.take q) := RowE.take encH (OwnE.row encH HM2.out) (by omega)
      have KF2' := Lib.hid (KF2.out w3 HS2.out hr2 (fun x hx => (HOK.out x (List.mem_of_mem_take hx)).below HB.out))
      clear KF2 hr2 bcut hmx hq
      go_upto_region 11 with (go_at_call 32; refine KF2'.out.mono ?_; rintro e w4 ⟨pY, cY, pVY, cVY, rfl, hY, hVY, hb, m1, m2⟩; simp only at hY hVY m1 m2; have HY := Lib.hid hY; have HVY := Lib.hid hVY; clear hY hVY; (replace R10 := Lib.hid (R10.out.belowS hb); replace HM2 := Lib.hid (HM2.out.below hb (Nat.le_refl _)); replace HS2 := Lib.hid (HS2.out.below hb (Nat.le_refl _)); replace HX := Lib.hid (HX.out.below hb (Nat.le_refl _)); replace HVX := Lib.hid (HVX.out.below hb (Nat.le_refl _)); replace HB := Lib.hid (HB.out.trans (hb.mono HB.out.size)); clear hb); clear KF2')
      have P0 : Hid (PtSt w4 (.slice pY Y.length cY) Y (.slice pVY VY.length cVY) VY (w4.alloc (.cells #[.slice pY Y.length cY, .slice pVY VY.length cVY] 45))) := Lib.hid ⟨RowAt.new w4 _ _, RowE.below encS HY.out (belowA w4 _) (Nat.le_refl _), RowE.below encB HVY.out (belowA w4 _) (Nat.le_refl _), belowA w4 _⟩
      clear HY HVY HS2 HS0
      generalize w4.alloc (.cells #[.slice pY Y.length cY, .slice pVY VY.length cVY] 45) = w5 at *
      by_cases g : cy = 0
      · have hf := HF.out
        rw [if_pos g] at hf
        subst g
        have HFF := Lib.hid hf
        clear hf HF HBAD1
        by_cases hc1 : c1 = q
        · have hLq : L.length = q := by omega
          go_wp2
          go_loopw [14, 81] (fun s14 s81 wr => ∃ (k : Nat) (Y' : List ByteArray) (VY' : List Bal) (p : Option Addr) (c : Nat) (q' : Option Addr) (d : Nat), k ≤ L.length - q ∧ s81 = .int .i64 k ∧ s14 = .int .i64 0 ∧ Y'.length ≤ 1000 + k ∧ VY'.length ≤ 1000 + k ∧ Hid ((X, VX, cx) = foldFrom ep (M.drop (q + k)) Y' VY') ∧ Hid (PtSt w4 (.slice p Y'.length c) Y' (.slice q' VY'.length d) VY' wr)) (fun _ s _ => (L.length - q) - (intOf s).toNat)
          case atStart => exact ⟨0, Y, VY, pY, cY, pVY, cVY, Nat.zero_le _, rfl, rfl, by omega, by omega, HFF, P0⟩
          case round =>
          clear P0 HFF
          obtain ⟨k, Y', VY', p, c, q', d, hk, rfl, rfl, hsl, hvl, hfo, hp⟩ := hrel
          have P := Lib.hid hp.out
          have HFO := Lib.hid hfo.out
          clear hp hfo
          have hk0 : k = 0 := by omega
          subst hk0
          have hdl : q + 0 = M.length := by omega
          have hf := HFO.out
          rw [hdl, List.drop_length, foldFrom] at hf
          injection hf with f1 f2
          injection f2 with f2 f3
          subst f1 f2 f3
          have KL := fun W h1 h2 h3 h4 => like_any (.slice p X.length c) (.slice q' VX.length d) (.slice pX X.length cX) (.slice pVX VX.length cVX) X VX X VX W h1 h2 h3 h4
          rw [likeL_true ⟨rfl, rfl⟩] at KL
          replace KL := Lib.hid KL
          have HB5 := Lib.hid (HB.out.trans (P.out.2.2.2.mono HB.out.size))
          have R5 := Lib.hid (R10.out.belowS P.out.2.2.2)
          have HX5 := Lib.hid (HX.out.below P.out.2.2.2 (Nat.le_refl _))
          have HVX5 := Lib.hid (HVX.out.below P.out.2.2.2 (Nat.le_refl _))
          obtain ⟨x0, x1, xf0, xf1⟩ := R5.out.c2
          obtain ⟨z0, z1, zf0, zf1⟩ := P.out.1.c2
          clear R10 HX HVX HB HM2 HFO
          go_wp2_with (first | (go_at_call 34; refine (alive20_any _).mono ?_; rintro e wz ⟨rfl, rfl⟩) | (go_at_call 35; refine (KL.out _ P.out.2.1 P.out.2.2.1 HX5.out HVX5.out).mono ?_; rintro e wz ⟨rfl, hb⟩; have HE := Lib.hid (HB5.out.trans (hb.mono HB5.out.size)); clear hb))
          go_ret
          exact ⟨rfl, HE.out⟩
        · have hc2 : q < c1 := by omega
          obtain ⟨g, rfl⟩ := OwnE.base HM2.out (by omega)
          go_wp2
          go_loopw [14, 81] (fun s14 s81 wr => ∃ (k : Nat) (Y' : List ByteArray) (VY' : List Bal) (p : Option Addr) (c : Nat) (q' : Option Addr) (d : Nat), k ≤ L.length - q ∧ s81 = .int .i64 k ∧ s14 = .int .i64 0 ∧ Y'.length ≤ 1000 + k ∧ VY'.length ≤ 1000 + k ∧ Hid ((X, VX, cx) = foldFrom ep (M.drop (q + k)) Y' VY') ∧ Hid (PtSt w4 (.slice p Y'.length c) Y' (.slice q' VY'.length d) VY' wr)) (fun _ s _ => (L.length - q) - (intOf s).toNat)
          case atStart => exact ⟨0, Y, VY, pY, cY, pVY, cVY, Nat.zero_le _, rfl, rfl, by omega, by omega, HFF, P0⟩
          case round =>
          clear P0 HFF
          obtain ⟨k, Y', VY', p, c, q', d, hk, rfl, rfl, hsl, hvl, hfo, hp⟩ := hrel
          have P := Lib.hid hp.out
          have HFO := Lib.hid hfo.out
          clear hp hfo
          by_cases hlt : k < L.length - q
          · have hlt2 : q + k < M.length := by omega
            have hg := List.getElem?_eq_getElem hlt2
            have hdr : M.drop (q + k) = M[q + k] :: M.drop (q + k + 1) := List.drop_eq_getElem_cons hlt2
            have hxok := HOK.out M[q + k] (List.getElem_mem hlt2)
            obtain ⟨g', eg, g1, g2, g3, -, -⟩ := OwnE.at (OH.below HM2.out P.out.2.2.2 (Nat.le_refl _)) hg
            injection eg with eg
            injection eg with eg _ _
            subst eg
            generalize M[q + k] = x at *
            have HFO2 := HFO.out
            rw [hdr, foldFrom] at HFO2
            have c0 := g3 0 _ rfl
            have c1' := g3 1 _ rfl
            have c2 := g3 2 _ rfl
            have c3 := g3 3 _ rfl
            have c4 := g3 4 _ rfl
            have c5 := g3 5 _ rfl
            have c6 := g3 6 _ rfl
            have c7 := g3 7 _ rfl
            have c8 := g3 8 _ rfl
            have c9 := g3 9 _ rfl
            have c10 := g3 10 _ rfl
            replace c0 : wr.cell? ⟨g, (q + k) * 11, none⟩ = _ := c0
            replace c1' : wr.cell? ⟨g, (q + k) * 11 + 1, none⟩ = _ := c1'
            replace c2 : wr.cell? ⟨g, (q + k) * 11 + 2, none⟩ = _ := c2
            replace c3 : wr.cell? ⟨g, (q + k) * 11 + 3, none⟩ = _ := c3
            replace c4 : wr.cell? ⟨g, (q + k) * 11 + 4, none⟩ = _ := c4
            replace c5 : wr.cell? ⟨g, (q + k) * 11 + 5, none⟩ = _ := c5
            replace c6 : wr.cell? ⟨g, (q + k) * 11 + 6, none⟩ = _ := c6
            replace c7 : wr.cell? ⟨g, (q + k) * 11 + 7, none⟩ = _ := c7
            replace c8 : wr.cell? ⟨g, (q + k) * 11 + 8, none⟩ = _ := c8
            replace c9 : wr.cell? ⟨g, (q + k) * 11 + 9, none⟩ = _ := c9
            replace c10 : wr.cell? ⟨g, (q + k) * 11 + 10, none⟩ = _ := c10
            rw [Nat.add_mul] at c0 c1' c2 c3 c4 c5 c6 c7 c8 c9 c10
            clear g3 hdr HFO hg
            have W2 := belowA wr (.cells (hsc x) 36)
            have P2 := Lib.hid (P.out.next W2)
            have KN := next_any _ _ Y' VY' x.1 x.sv x.gv ep _ P2.out.2.1 P2.out.2.2.1 (hxok.below (HB.out.trans (P2.out.2.2.2.mono HB.out.size))).1 (by omega) (by omega) hxok.2.1 bep.1 hxok.2.2
            have KN := Lib.hid KN
            generalize hr : nextF Y' VY' x.1 ep = r at *
            obtain ⟨Z, VZ, cz⟩ := r
            have HR := Lib.hid hr
            have HFO := Lib.hid HFO2
            clear hr HFO2 W2 P
            obtain ⟨x, ⟨pv, cv⟩, ⟨pg, cg⟩⟩ := x
            obtain ⟨pa, ht, ro, tx, pr, va, val, vo, ad, rd, se⟩ := x
            simp only [HS.sv, HS.gv] at *
            go_upto_region 17 with (fail)
            replace P2 : Hid (PtSt w4 (.slice p Y'.length c) Y' (.slice q' VY'.length d) VY' (wr.alloc (.cells #[.string pa, .int .u64 ht, .string ro, .string tx, .string pr, .string va, .slice pv val.length cv, .string vo, .bool ad, .int .u64 rd, .slice pg se.length cg] 36))) := P2
            have RX : Hid (RowAt (wr.alloc (.cells #[.string pa, .int .u64 ht, .string ro, .string tx, .string pr, .string va, .slice pv val.length cv, .string vo, .bool ad, .int .u64 rd, .slice pg se.length cg] 36)) wr.heap.size #[.string pa, .int .u64 ht, .string ro, .string tx, .string pr, .string va, .slice pv val.length cv, .string vo, .bool ad, .int .u64 rd, .slice pg se.length cg] 36) := Lib.hid (RowAt.new wr _ _)
            replace KN : Hid (Calls Try.prog 30 #[.agg #[.slice p Y'.length c, .slice q' VY'.length d], .agg #[.string pa, .int .u64 ht, .string ro, .string tx, .string pr, .string va, .slice pv val.length cv, .string vo, .bool ad, .int .u64 rd, .slice pg se.length cg], .int .u64 ep] (wr.alloc (.cells #[.string pa, .int .u64 ht, .string ro, .string tx, .string pr, .string va, .slice pv val.length cv, .string vo, .bool ad, .int .u64 rd, .slice pg se.length cg] 36)) (SnapPost (Z, VZ, cz) (Y'.length + 1) (VY'.length + 1) (wr.alloc (.cells #[.string pa, .int .u64 ht, .string ro, .string tx, .string pr, .string va, .slice pv val.length cv, .string vo, .bool ad, .int .u64 rd, .slice pg se.length cg] 36)))) := KN
            generalize (wr.alloc (.cells #[.string pa, .int .u64 ht, .string ro, .string tx, .string pr, .string va, .slice pv val.length cv, .string vo, .bool ad, .int .u64 rd, .slice pg se.length cg] 36)) = w6 at *
            generalize wr.heap.size = kx at *
            clear c0 c1' c2 c3 c4 c5 c6 c7 c8 c9 c10 hxok
            obtain ⟨x0, x1, xf0, xf1⟩ := P2.out.1.c2
            obtain ⟨y0, y1, y2, y3, y4, y5, y6, y7, y8, y9, y10⟩ := RX.out.c11
            go_upto_region 18 with (go_at_call 30; refine KN.out.mono ?_; rintro e w7 ⟨pZ, cZ, pVZ, cVZ, rfl, hZ, hVZ, hb, l1, l2⟩; simp only at hZ hVZ l1 l2; have HZ := Lib.hid hZ; have HVZ := Lib.hid hVZ; clear hZ hVZ; have P3 := Lib.hid (P2.out.next hb); clear x0 x1 xf0 xf1 y0 y1 y2 y3 y4 y5 y6 y7 y8 y9 y10 hb RX P2 KN; obtain ⟨x0, x1, xf0, xf1⟩ := P3.out.1.c2)
            have P4 := Lib.hid (P3.out.put HZ.out HVZ.out)
            clear x0 x1 xf0 xf1 P3 HZ HVZ
            generalize (w7.setCell ⟨w4.heap.size, 0, none⟩ (.slice pZ Z.length cZ)).setCell ⟨w4.heap.size, 1, none⟩ (.slice pVZ VZ.length cVZ) = w8 at *
            have hfo := HFO.out
            clear HFO HR
            by_cases hcx : cz = 0
            · rw [if_pos hcx] at hfo
              have HF2 := Lib.hid hfo
              clear hfo
              subst hcx
              go_wp2
              exact ⟨⟨k + 1, Z, VZ, pZ, cZ, pVZ, cVZ, by omega, by simp, rfl, by omega, by omega, HF2, P4⟩, by simp [intOf]; omega⟩
            · rw [if_neg hcx] at hfo
              injection hfo with f1 f2
              injection f2 with f2 f3
              subst f3
              have gq : (cx != 0) = true := by simp [hcx]
              have HB5 := Lib.hid (HB.out.trans (P4.out.2.2.2.mono HB.out.size))
              clear f1 f2 hcx
              go_wp2_with (go_at_call 34; refine (alive20_any _).mono ?_; rintro e wz ⟨rfl, rfl⟩)
              go_ret
              exact ⟨rfl, HB5.out⟩
          · obtain rfl : k = L.length - q := by omega
            have hdl : q + (L.length - q) = M.length := by omega
            have hf := HFO.out
            rw [hdl, List.drop_length, foldFrom] at hf
            injection hf with f1 f2
            injection f2 with f2 f3
            subst f1 f2 f3
            have KL := fun W h1 h2 h3 h4 => like_any (.slice p X.length c) (.slice q' VX.length d) (.slice pX X.length cX) (.slice pVX VX.length cVX) X VX X VX W h1 h2 h3 h4
            rw [likeL_true ⟨rfl, rfl⟩] at KL
            replace KL := Lib.hid KL
            have HB5 := Lib.hid (HB.out.trans (P.out.2.2.2.mono HB.out.size))
            have R5 := Lib.hid (R10.out.belowS P.out.2.2.2)
            have HX5 := Lib.hid (HX.out.below P.out.2.2.2 (Nat.le_refl _))
            have HVX5 := Lib.hid (HVX.out.below P.out.2.2.2 (Nat.le_refl _))
            obtain ⟨x0, x1, xf0, xf1⟩ := R5.out.c2
            obtain ⟨z0, z1, zf0, zf1⟩ := P.out.1.c2
            clear R10 HX HVX HB HM2 HFO
            go_wp2_with (first | (go_at_call 34; refine (alive20_any _).mono ?_; rintro e wz ⟨rfl, rfl⟩) | (go_at_call 35; refine (KL.out _ P.out.2.1 P.out.2.2.1 HX5.out HVX5.out).mono ?_; rintro e wz ⟨rfl, hb⟩; have HE := Lib.hid (HB5.out.trans (hb.mono HB5.out.size)); clear hb))
            go_ret
            exact ⟨rfl, HE.out⟩
      · have hf := HF.out
        rw [if_neg g] at hf
        obtain ⟨e1, e2⟩ := HBAD1.out g
        injection hf with f1 f2
        injection f2 with f2 f3
        subst f1 f2 f3 e1 e2
        have KL := fun W h1 h2 h3 h4 => like_any (.slice pX 0 cX) (.slice pVX 0 cVX) (.slice none 0 0) (.slice none 0 0) [] [] [] [] W h1 h2 h3 h4
        rw [likeL_true ⟨rfl, rfl⟩] at KL
        have KL := Lib.hid KL
        have gq : (cx != 0) = true := by simp [g]
        simp only [List.length_nil] at *
        clear HF HBAD1 g
        have HB5 := Lib.hid (HB.out.trans (P0.out.2.2.2.mono HB.out.size))
        have R5 := Lib.hid (R10.out.belowS P0.out.2.2.2)
        have HX5 := Lib.hid (HX.out.below P0.out.2.2.2 (Nat.le_refl _))
        have HVX5 := Lib.hid (HVX.out.below P0.out.2.2.2 (Nat.le_refl _))
        have hnS : ∀ W, RowE encS W (.slice none 0 0) [] := fun W => .inl ⟨rfl, rfl⟩
        have hnB : ∀ W, RowE encB W (.slice none 0 0) [] := fun W => .inl ⟨rfl, rfl⟩
        clear R10 HX HVX HB P0 HM2
        obtain ⟨x0, x1, xf0, xf1⟩ := R5.out.c2
        go_wp2_with (first | (go_at_call 34; refine (alive20_any _).mono ?_; rintro e wz ⟨rfl, rfl⟩) | (go_at_call 35; refine (KL.out _ HX5.out HVX5.out (hnS _) (hnB _)).mono ?_; rintro e wz ⟨rfl, hb⟩; have HE := Lib.hid (HB5.out.trans (hb.mono HB5.out.size)); clear hb))
        go_ret
        exact ⟨rfl, HE.out⟩
end Go.Proofs.Ythipnbiilobjeaa
