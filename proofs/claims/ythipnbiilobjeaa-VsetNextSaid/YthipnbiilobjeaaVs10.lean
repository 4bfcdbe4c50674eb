/- Vset, the reference: two rows are the same; how long what a cast leaves is. Vset, the reference: Next, walked. Vset, the reference: Fold. -/
import Derived.Test.YthipnbiilobjeaaW4
import Derived.Test.YthipnbiilobjeaaVs4
import Derived.Test.YthipnbiilobjeaaVo23
import Derived.Test.YthipnbiilobjeaaVs3
import Derived.Test.YthipnbiilobjeaaVs7
import Derived.WalkMore
namespace Go.Proofs.Ythipnbiilobjeaa
open Go.RowKit Go.Shelf

def pot {α : Type} (s : List α × Bool) : Nat := s.1.length + (if s.2 = true then 0 else 1)
theorem putS_one (b : Bal) (s : List Bal × Bool) (x : Bal) : pot (putS b s x) ≤ pot s + 1 := by
  obtain ⟨o, d⟩ := s
  unfold putS pot
  cases d <;> simp only [List.length_append] <;> split <;> split <;> simp_all <;> omega
theorem putF_one (b : Bal) : ∀ (V : List Bal) s, pot (V.foldl (putS b) s) ≤ pot s + V.length
  | [], s => Nat.le_refl _
  | x :: V, s => by have := putF_one b V (putS b s x); have := putS_one b s x; simp only [List.foldl_cons, List.length_cons]; omega
theorem putL_one (V : List Bal) (b : Bal) : (putL V b).length ≤ V.length + 1 := by
  have := putF_one b V ([], false)
  unfold putL
  rw [List.length_append]
  unfold pot at this
  split <;> simp_all <;> omega
theorem setS_one (b : ByteArray) (s : List ByteArray × Bool) (x : ByteArray) : pot (setS b s x) ≤ pot s + 1 := by
  obtain ⟨o, d⟩ := s
  unfold setS pot
  cases d <;> simp only [List.length_append] <;> split <;> split <;> simp_all <;> omega
theorem setF_one (b : ByteArray) : ∀ (V : List ByteArray) s, pot (V.foldl (setS b) s) ≤ pot s + V.length
  | [], s => Nat.le_refl _
  | x :: V, s => by have := setF_one b V (setS b s x); have := setS_one b s x; simp only [List.foldl_cons, List.length_cons]; omega
theorem setToL_one (S : List ByteArray) (a : ByteArray) (add : Bool) : (setToL S a add).length ≤ S.length + 1 := by
  have := setF_one a S ([], !add)
  unfold setToL
  rw [List.length_append]
  unfold pot at this
  cases add <;> split <;> simp_all <;> omega
theorem castF_one (S : List ByteArray) (V : List Bal) (b : Bal) : (castF S V b).1.length ≤ S.length + 1 ∧ (castF S V b).2.1.length ≤ V.length + 1 := by
  have h1 := putL_one V b
  have h2 := setToL_one S b.2.1 b.2.2
  have h3 : (stayL (setToL S b.2.1 b.2.2) (leftL (putL V b) b) b).length ≤ (putL V b).length := Nat.le_trans (List.length_filter_le _ _) (List.length_filter_le _ _)
  unfold castF
  split
  · split
    · exact ⟨Nat.zero_le _, Nat.zero_le _⟩
    · split
      · exact ⟨h2, by show (stayL (setToL S b.2.1 b.2.2) (leftL (putL V b) b) b).length ≤ V.length + 1; omega⟩
      · exact ⟨Nat.le_succ _, h1⟩
  · exact ⟨Nat.zero_le _, Nat.zero_le _⟩
theorem rcastF_eq {S S' : List ByteArray} {V V' : List Bal} {b : Bal} {c : Int} (h : RCastRel S V b S' V' c) : (S', V', c) = castF S V b := by
  unfold castF
  rcases h with ⟨h, rfl, rfl, rfl⟩ | ⟨h1, h2, rfl, rfl, rfl⟩ | ⟨h1, h2, rfl, ⟨h3, rfl, rfl⟩ | ⟨h3, rfl, rfl⟩⟩
  · rw [if_neg h]
  · rw [if_pos h1, if_pos h2]
  · rw [if_pos h1, if_neg h2, if_neg (by rw [h3]; decide)]
  · rw [if_pos h1, if_neg h2, if_pos h3]

theorem rparts3 {S : List ByteArray} {V : List Bal} {b : Bal} {w : World} {e : Ending} {w' : World} (h : RCastPost S V b w e w') : ∃ pS cS pV cV S' V' c, e = .returned (.tuple #[.agg #[.slice pS S'.length cS, .slice pV V'.length cV], .int .i64 c]) ∧ Hid (RCastRel S V b S' V' c) ∧
    Hid (RS w' (.slice pS S'.length cS) S') ∧ Hid (RB w' (.slice pV V'.length cV) V') ∧ Below w.heap.size w w' := by
  obtain ⟨sv, vv, S', V', c, rfl, h1, h2, h3, h4⟩ := h
  obtain ⟨pS, cS, rfl, _, _⟩ := RowE.shape encS h2
  obtain ⟨pV, cV, rfl, _, _⟩ := RowE.shape encB h3
  exact ⟨pS, cS, pV, cV, S', V', c, rfl, Lib.hid h1, Lib.hid h2, Lib.hid h3, h4⟩

set_option maxRecDepth 100000 in
set_option maxHeartbeats 2000000 in
theorem same_any (sa sb : Value) (S T : List ByteArray) (w : World) (hS : RowE encS w sa S) (hT : RowE encS w sb T) :
    Calls Try.prog 63 #[sa, sb] w fun e w' => e = .returned (.bool (eqL S T)) ∧ Below w.heap.size w w' := by
  obtain ⟨pS, cS, rfl, s1, s2⟩ := RowE.shape encS hS
  obtain ⟨pT, cT, rfl, s5, s6⟩ := RowE.shape encS hT
  have HS := Lib.hid hS
  have HT := Lib.hid hT
  clear hS hT
  generalize hn1 : T.length = n1 at *
  unfold maxLen at s2 s6
  by_cases e1 : S.length = n1
  · subst e1
    have N1 := Lib.hid hn1
    have HB := Lib.hid (Below.refl w.heap.size w)
    clear hn1
    go_enter Try.func63, Try.ntmps63
    go_wp2
    go_loopw [13] (fun c wr => ∃ k : Nat, k ≤ S.length ∧ c = .int .i64 k ∧ Hid (S.take k = T.take k) ∧ Hid (Below w.heap.size w wr)) (fun c _ => S.length - (intOf c).toNat)
    case atStart => exact ⟨0, Nat.zero_le _, rfl, Lib.hid (by simp), HB⟩
    case round =>
      obtain ⟨k, hk, rfl, ht, hb⟩ := hrel
      clear HB
      have HB := Lib.hid hb.out
      have HQ := Lib.hid ht.out
      clear hb ht
      by_cases hlt : k < S.length
      · have hlt2 : k < T.length := by rw [N1.out]; exact hlt
        obtain ⟨-, -, -, HA⟩ := (RowE.below encS HS.out HB.out (Nat.le_refl _)).atS
        obtain ⟨a, rfl, c0⟩ := HA k S[k] (List.getElem?_eq_getElem hlt)
        obtain ⟨-, -, -, HA'⟩ := (RowE.below encS HT.out HB.out (Nat.le_refl _)).atS
        obtain ⟨a', rfl, c0'⟩ := HA' k T[k] (List.getElem?_eq_getElem hlt2)
        clear HA HA'
        by_cases e : S[k] = T[k]
        · have hst := Lib.hid (take_eq_step HQ.out hlt hlt2 e)
          rw [← e] at c0'
          generalize S[k] = z at *
          clear e
          go_wp2
          go_region
          go_wp2
          exact ⟨⟨k + 1, by omega, by simp, hst, Lib.hid HB.out.drew⟩, by simp [intOf]; omega⟩
        · have hno : Hid (eqL S T = false) := Lib.hid (eqL_false fun h => e (by cases h; rfl))
          have q := seq_false e
          generalize S[k] = z at *
          generalize T[k] = z' at *
          clear e
          go_wp2
          go_region
          go_wp2
          go_ret
          exact ⟨by rw [hno.out]; rfl, HB.out.drew⟩
      · obtain rfl : k = S.length := by omega
        have hyes : Hid (eqL S T = true) := Lib.hid (eqL_true (by
          have := HQ.out
          rw [List.take_length] at this
          rw [this, ← N1.out, List.take_length]))
        go_wp2
        go_ret
        exact ⟨by rw [hyes.out]; rfl, HB.out⟩
  · have hno : Hid (eqL S T = false) := Lib.hid (eqL_false fun h => e1 (by rw [← hn1, h]))
    have hq : ¬ (S.length : Int) = (n1 : Int) := by omega
    clear hn1 e1
    go_enter Try.func63, Try.ntmps63
    go_wp2
    go_ret
    exact ⟨by rw [hno.out]; rfl, Below.refl _ _⟩
end Go.Proofs.Ythipnbiilobjeaa

namespace Go.Proofs.Ythipnbiilobjeaa
open Go.RowKit Go.Shelf

set_option maxRecDepth 100000 in
set_option maxHeartbeats 4000000 in
theorem rnext_any (sv vv : Value) (S : List ByteArray) (V : List Bal) (h : Hd) (hv gv : Value) (ep : Int) (w : World) (hS : RowE encS w sv S) (hV : RowE encB w vv V) (hh : HdAt w h hv gv) (hl : V.length ≤ 100000) (hl2 : S.length ≤ 100000) (hl3 : h.val.length ≤ 100000) (he : 0 ≤ ep) (ht : 0 ≤ h.ht) :
    Calls Try.prog 31 #[.agg #[sv, vv], hdV h hv gv, .int .u64 ep] w (SnapPost (nextF S V h ep) (S.length + 1) (V.length + 1) w) := by
  have KR := Lib.hid (fun W a b => rright_any sv vv S V W a b (by omega) (by omega))
  have KH := Lib.hid (fun W a => rhRight_any h hv gv W a (by omega))
  have KE := Lib.hid (fun W a b => same_any hv sv h.val S W a b)
  have KA := Lib.hid (fun W a => rhas_any sv S h.pr W a)
  obtain ⟨pS, cS, rfl, _, _⟩ := RowE.shape encS hS
  obtain ⟨pV, cV, rfl, _, _⟩ := RowE.shape encB hV
  obtain ⟨pH, cH, rfl, _, _⟩ := RowE.shape encS hh.1
  obtain ⟨pG, cG, rfl, _, _⟩ := RowE.shape encG hh.2.1
  have R3 := ((RowAt.new w #[.slice pS S.length cS, .slice pV V.length cV] 45).alloc (.cells (hdc h (.slice pH h.val.length cH) (.slice pG h.se.length cG)) 36)).alloc (.cells #[.slice none 0 0, .slice none 0 0] 45)
  have R4 := (RowAt.new' (w.alloc (.cells #[.slice pS S.length cS, .slice pV V.length cV] 45)) (hdc h (.slice pH h.val.length cH) (.slice pG h.se.length cG)) 36 (k := w.heap.size + 1) (by simp)).alloc (.cells #[.slice none 0 0, .slice none 0 0] 45)
  have R6 := RowAt.new' ((w.alloc (.cells #[.slice pS S.length cS, .slice pV V.length cV] 45)).alloc (.cells (hdc h (.slice pH h.val.length cH) (.slice pG h.se.length cG)) 36)) #[.slice none 0 0, .slice none 0 0] 45 (k := w.heap.size + 2) (by simp)
  have HB0 := (belowA2 w (.cells #[.slice pS S.length cS, .slice pV V.length cV] 45) (.cells (hdc h (.slice pH h.val.length cH) (.slice pG h.se.length cG)) 36)).alloc (by simp; omega) (.cells #[.slice none 0 0, .slice none 0 0] 45)
  have N0 : Hid (NxSt h (.slice pH h.val.length cH) (.slice pG h.se.length cG) w (.slice pS S.length cS) S (.slice pV V.length cV) V _) := Lib.hid ⟨R3, R4, R6, hS.below encS HB0 (Nat.le_refl _), hV.below encB HB0 (Nat.le_refl _), hh.below HB0, HB0⟩
  clear R3 R4 R6 HB0 hS hV hh
  go_enter Try.func31, Try.ntmps31
  go_upto_region 1 with (fail)
  generalize ((w.alloc (.cells #[.slice pS S.length cS, .slice pV V.length cV] 45)).alloc (.cells (hdc h (.slice pH h.val.length cH) (.slice pG h.se.length cG)) 36)).alloc (.cells #[.slice none 0 0, .slice none 0 0] 45) = W at *
  obtain ⟨x0, x1, xf0, xf1⟩ := N0.out.1.c2
  obtain ⟨y0, y1, y2, y3, y4, y5, y6, y7, y8, y9, y10⟩ := N0.out.2.1.c11
  obtain ⟨z0, z1, zf0, zf1⟩ := N0.out.2.2.1.c2
  by_cases g1 : RightOk S V
  · rw [rightL_true g1] at KR
    by_cases g2 : HdOk h
    · rw [hdL_true g2] at KH
      by_cases g3 : ep = 0
      · have HC : Hid (nextF S V h ep = ([], [], 1)) := Lib.hid (by unfold nextF; rw [if_neg (fun hh => hh.2.2 g3)])
        clear g1 g2
        subst g3
        go_wp2_with (first | (go_at_call 62; refine (KR.out _ N0.out.2.2.2.1 N0.out.2.2.2.2.1).mono ?_; rintro e w1 ⟨rfl, hb⟩; replace N0 := Lib.hid (N0.out.next hb); clear hb; clear x0 x1 xf0 xf1 y0 y1 y2 y3 y4 y5 y6 y7 y8 y9 y10 z0 z1 zf0 zf1; obtain ⟨x0, x1, xf0, xf1⟩ := N0.out.1.c2; obtain ⟨y0, y1, y2, y3, y4, y5, y6, y7, y8, y9, y10⟩ := N0.out.2.1.c11; obtain ⟨z0, z1, zf0, zf1⟩ := N0.out.2.2.1.c2) | (go_at_call 24; refine (KH.out _ N0.out.2.2.2.2.2.1).mono ?_; rintro e w1 ⟨rfl, hb⟩; replace N0 := Lib.hid (N0.out.next hb); clear hb; clear x0 x1 xf0 xf1 y0 y1 y2 y3 y4 y5 y6 y7 y8 y9 y10 z0 z1 zf0 zf1; obtain ⟨x0, x1, xf0, xf1⟩ := N0.out.1.c2; obtain ⟨y0, y1, y2, y3, y4, y5, y6, y7, y8, y9, y10⟩ := N0.out.2.1.c11; obtain ⟨z0, z1, zf0, zf1⟩ := N0.out.2.2.1.c2) | (go_at_call 63; refine (KE.out _ N0.out.2.2.2.2.2.1.1 N0.out.2.2.2.1).mono ?_; rintro e w1 ⟨rfl, hb⟩; replace N0 := Lib.hid (N0.out.next hb); clear hb; clear x0 x1 xf0 xf1 y0 y1 y2 y3 y4 y5 y6 y7 y8 y9 y10 z0 z1 zf0 zf1; obtain ⟨x0, x1, xf0, xf1⟩ := N0.out.1.c2; obtain ⟨y0, y1, y2, y3, y4, y5, y6, y7, y8, y9, y10⟩ := N0.out.2.1.c11; obtain ⟨z0, z1, zf0, zf1⟩ := N0.out.2.2.1.c2) | (go_at_call 64; refine (KA.out _ N0.out.2.2.2.1).mono ?_; rintro e w1 ⟨rfl, hb⟩; replace N0 := Lib.hid (N0.out.next hb); clear hb; clear x0 x1 xf0 xf1 y0 y1 y2 y3 y4 y5 y6 y7 y8 y9 y10 z0 z1 zf0 zf1; obtain ⟨x0, x1, xf0, xf1⟩ := N0.out.1.c2; obtain ⟨y0, y1, y2, y3, y4, y5, y6, y7, y8, y9, y10⟩ := N0.out.2.1.c11; obtain ⟨z0, z1, zf0, zf1⟩ := N0.out.2.2.1.c2))
        obtain ⟨r1, r2, r3, r4⟩ := N0.out.ans (p2 := none) (n2 := 0) (c2 := 0) (q2 := none) (m2 := 0) (d2 := 0) (S2 := []) (V2 := []) (.inl ⟨rfl, rfl⟩) (.inl ⟨rfl, rfl⟩)
        obtain ⟨k0, k1, _, _⟩ := r1.c2
        refine bodyPost_ret (v := .tuple #[.agg #[.slice none 0 0, .slice none 0 0], .int .i64 1]) (by simp [results, Try.results31, go_sem, k0, k1]) rfl ?_
        rw [HC.out]
        exact ⟨none, 0, none, 0, rfl, r2, r3, r4, Nat.zero_le _, Nat.zero_le _⟩
      · by_cases g4 : h.val = S
        · rw [eqL_true g4] at KE
          by_cases g5 : h.pr ∈ S
          · rw [hasL_true g5] at KA
            have HC : Hid (nextF S V h ep = if h.vo = ⟨#[]⟩ then (S, (if h.ht % ep = 0 then [] else V), 0) else castF S (if h.ht % ep = 0 then [] else V) (h.pr, h.vo, h.ad)) := Lib.hid (by unfold nextF; rw [if_pos ⟨g1, g2, g3⟩, if_pos g4, if_pos g5])
            clear g1 g2 g4 g5
            go_upto_region 7 with (first | (go_at_call 62; refine (KR.out _ N0.out.2.2.2.1 N0.out.2.2.2.2.1).mono ?_; rintro e w1 ⟨rfl, hb⟩; replace N0 := Lib.hid (N0.out.next hb); clear hb; clear x0 x1 xf0 xf1 y0 y1 y2 y3 y4 y5 y6 y7 y8 y9 y10 z0 z1 zf0 zf1; obtain ⟨x0, x1, xf0, xf1⟩ := N0.out.1.c2; obtain ⟨y0, y1, y2, y3, y4, y5, y6, y7, y8, y9, y10⟩ := N0.out.2.1.c11; obtain ⟨z0, z1, zf0, zf1⟩ := N0.out.2.2.1.c2) | (go_at_call 24; refine (KH.out _ N0.out.2.2.2.2.2.1).mono ?_; rintro e w1 ⟨rfl, hb⟩; replace N0 := Lib.hid (N0.out.next hb); clear hb; clear x0 x1 xf0 xf1 y0 y1 y2 y3 y4 y5 y6 y7 y8 y9 y10 z0 z1 zf0 zf1; obtain ⟨x0, x1, xf0, xf1⟩ := N0.out.1.c2; obtain ⟨y0, y1, y2, y3, y4, y5, y6, y7, y8, y9, y10⟩ := N0.out.2.1.c11; obtain ⟨z0, z1, zf0, zf1⟩ := N0.out.2.2.1.c2) | (go_at_call 63; refine (KE.out _ N0.out.2.2.2.2.2.1.1 N0.out.2.2.2.1).mono ?_; rintro e w1 ⟨rfl, hb⟩; replace N0 := Lib.hid (N0.out.next hb); clear hb; clear x0 x1 xf0 xf1 y0 y1 y2 y3 y4 y5 y6 y7 y8 y9 y10 z0 z1 zf0 zf1; obtain ⟨x0, x1, xf0, xf1⟩ := N0.out.1.c2; obtain ⟨y0, y1, y2, y3, y4, y5, y6, y7, y8, y9, y10⟩ := N0.out.2.1.c11; obtain ⟨z0, z1, zf0, zf1⟩ := N0.out.2.2.1.c2) | (go_at_call 64; refine (KA.out _ N0.out.2.2.2.1).mono ?_; rintro e w1 ⟨rfl, hb⟩; replace N0 := Lib.hid (N0.out.next hb); clear hb; clear x0 x1 xf0 xf1 y0 y1 y2 y3 y4 y5 y6 y7 y8 y9 y10 z0 z1 zf0 zf1; obtain ⟨x0, x1, xf0, xf1⟩ := N0.out.1.c2; obtain ⟨y0, y1, y2, y3, y4, y5, y6, y7, y8, y9, y10⟩ := N0.out.2.1.c11; obtain ⟨z0, z1, zf0, zf1⟩ := N0.out.2.2.1.c2))
            clear KR KH KE KA
            by_cases gm : h.ht % ep = 0
            · have q : (h.ht % ep == 0) = true := by simp [gm]
              rw [if_pos gm] at HC
              clear gm
              go_upto_region 9 with (fail)
              have N1 := Lib.hid (N0.out.put N0.out.2.2.2.1 (.inl ⟨rfl, rfl⟩ : RowE encB _ (.slice none 0 0) []))
              clear x0 x1 xf0 xf1 y0 y1 y2 y3 y4 y5 y6 y7 y8 y9 y10 z0 z1 zf0 zf1
              generalize ((w1.setCell ⟨w.heap.size, 0, none⟩ (.slice pS S.length cS)).setCell ⟨w.heap.size, 1, none⟩ (.slice none 0 0)) = W1 at *
              clear N0
              obtain ⟨x0, x1, xf0, xf1⟩ := N1.out.1.c2
              obtain ⟨y0, y1, y2, y3, y4, y5, y6, y7, y8, y9, y10⟩ := N1.out.2.1.c11
              obtain ⟨z0, z1, zf0, zf1⟩ := N1.out.2.2.1.c2
              by_cases gv : h.vo = ⟨#[]⟩
              · have q6 : h.vo.toList = [] := by simpa using seq_true gv
                have q7 : h.vo.toList.isEmpty = true := by simpa using q6
                have HC2 := HC.out
                rw [if_pos gv] at HC2
                clear gv HC
                have HC2 := Lib.hid HC2
                go_wp2
                obtain ⟨r1, r2, r3, r4⟩ := N1.out.ans N1.out.2.2.2.1 N1.out.2.2.2.2.1
                obtain ⟨k0, k1, _, _⟩ := r1.c2
                refine bodyPost_ret (v := .tuple #[.agg #[.slice pS S.length cS, .slice none (([] : List Bal)).length 0], .int .i64 0]) (by simp [results, Try.results31, go_sem, k0, k1]) rfl ?_
                rw [HC2.out]
                exact ⟨pS, cS, none, 0, rfl, r2, r3, r4, Nat.le_succ _, by simp⟩
              · have q6 : ¬ h.vo.toList = [] := by simpa using seq_false gv
                have q7 : h.vo.toList.isEmpty = false := by simpa using q6
                have HC2 := HC.out
                rw [if_neg gv] at HC2
                clear gv HC
                have HC2 := Lib.hid HC2
                have KC := Lib.hid (rcast_any (.slice pS S.length cS) (.slice none (([] : List Bal)).length 0) S (([] : List Bal)) (h.pr, h.vo, h.ad) W1 N1.out.2.2.2.1 N1.out.2.2.2.2.1 (by first | omega | simp) (by omega))
                go_upto_region 11 with (fail)
                go_wp2_with (go_at_call 65; refine KC.out.mono ?_; intro e w6 hp; obtain ⟨pX, cX, qX, dX, X, VX, cx, rfl, CX, HX, HVX, hb⟩ := rparts3 hp; have N2 := Lib.hid (N1.out.next hb); clear x0 x1 xf0 xf1 y0 y1 y2 y3 y4 y5 y6 y7 y8 y9 y10 z0 z1 zf0 zf1 hp hb KC; obtain ⟨z0, z1, zf0, zf1⟩ := N2.out.2.2.1.c2)
                obtain ⟨r1, r2, r3, r4⟩ := N2.out.ans HX.out HVX.out
                obtain ⟨k0, k1, _, _⟩ := r1.c2
                refine bodyPost_ret (v := .tuple #[.agg #[.slice pX X.length cX, .slice qX VX.length dX], .int .i64 cx]) (by simp [results, Try.results31, go_sem, k0, k1]) rfl ?_
                have hlen := castF_one S (([] : List Bal)) (h.pr, h.vo, h.ad)
                rw [HC2.out]
                rw [← rcastF_eq CX.out] at hlen ⊢
                exact ⟨pX, cX, qX, dX, rfl, r2, r3, r4, hlen.1, Nat.le_trans hlen.2 (by simp)⟩
            · have q : (h.ht % ep == 0) = false := by simp [gm]
              rw [if_neg gm] at HC
              clear gm
              go_upto_region 9 with (fail)
              have N1 := N0
              clear x0 x1 xf0 xf1 y0 y1 y2 y3 y4 y5 y6 y7 y8 y9 y10 z0 z1 zf0 zf1
              generalize w1 = W1 at *
              clear N0
              obtain ⟨x0, x1, xf0, xf1⟩ := N1.out.1.c2
              obtain ⟨y0, y1, y2, y3, y4, y5, y6, y7, y8, y9, y10⟩ := N1.out.2.1.c11
              obtain ⟨z0, z1, zf0, zf1⟩ := N1.out.2.2.1.c2
              by_cases gv : h.vo = ⟨#[]⟩
              · have q6 : h.vo.toList = [] := by simpa using seq_true gv
                have q7 : h.vo.toList.isEmpty = true := by simpa using q6
                have HC2 := HC.out
                rw [if_pos gv] at HC2
                clear gv HC
                have HC2 := Lib.hid HC2
                go_wp2
                obtain ⟨r1, r2, r3, r4⟩ := N1.out.ans N1.out.2.2.2.1 N1.out.2.2.2.2.1
                obtain ⟨k0, k1, _, _⟩ := r1.c2
                refine bodyPost_ret (v := .tuple #[.agg #[.slice pS S.length cS, .slice pV (V).length cV], .int .i64 0]) (by simp [results, Try.results31, go_sem, k0, k1]) rfl ?_
                rw [HC2.out]
                exact ⟨pS, cS, pV, cV, rfl, r2, r3, r4, Nat.le_succ _, by simp⟩
              · have q6 : ¬ h.vo.toList = [] := by simpa using seq_false gv
                have q7 : h.vo.toList.isEmpty = false := by simpa using q6
                have HC2 := HC.out
                rw [if_neg gv] at HC2
                clear gv HC
                have HC2 := Lib.hid HC2
                have KC := Lib.hid (rcast_any (.slice pS S.length cS) (.slice pV (V).length cV) S (V) (h.pr, h.vo, h.ad) W1 N1.out.2.2.2.1 N1.out.2.2.2.2.1 (by first | omega | simp) (by omega))
                go_upto_region 11 with (fail)
                go_wp2_with (go_at_call 65; refine KC.out.mono ?_; intro e w6 hp; obtain ⟨pX, cX, qX, dX, X, VX, cx, rfl, CX, HX, HVX, hb⟩ := rparts3 hp; have N2 := Lib.hid (N1.out.next hb); clear x0 x1 xf0 xf1 y0 y1 y2 y3 y4 y5 y6 y7 y8 y9 y10 z0 z1 zf0 zf1 hp hb KC; obtain ⟨z0, z1, zf0, zf1⟩ := N2.out.2.2.1.c2)
                obtain ⟨r1, r2, r3, r4⟩ := N2.out.ans HX.out HVX.out
                obtain ⟨k0, k1, _, _⟩ := r1.c2
                refine bodyPost_ret (v := .tuple #[.agg #[.slice pX X.length cX, .slice qX VX.length dX], .int .i64 cx]) (by simp [results, Try.results31, go_sem, k0, k1]) rfl ?_
                have hlen := castF_one S (V) (h.pr, h.vo, h.ad)
                rw [HC2.out]
                rw [← rcastF_eq CX.out] at hlen ⊢
                exact ⟨pX, cX, qX, dX, rfl, r2, r3, r4, hlen.1, Nat.le_trans hlen.2 (by simp)⟩
          · rw [hasL_false g5] at KA
            have HC : Hid (nextF S V h ep = ([], [], 42)) := Lib.hid (by unfold nextF; rw [if_pos ⟨g1, g2, g3⟩, if_pos g4, if_neg g5])
            clear g1 g2 g4 g5
            go_wp2_with (first | (go_at_call 62; refine (KR.out _ N0.out.2.2.2.1 N0.out.2.2.2.2.1).mono ?_; rintro e w1 ⟨rfl, hb⟩; replace N0 := Lib.hid (N0.out.next hb); clear hb; clear x0 x1 xf0 xf1 y0 y1 y2 y3 y4 y5 y6 y7 y8 y9 y10 z0 z1 zf0 zf1; obtain ⟨x0, x1, xf0, xf1⟩ := N0.out.1.c2; obtain ⟨y0, y1, y2, y3, y4, y5, y6, y7, y8, y9, y10⟩ := N0.out.2.1.c11; obtain ⟨z0, z1, zf0, zf1⟩ := N0.out.2.2.1.c2) | (go_at_call 24; refine (KH.out _ N0.out.2.2.2.2.2.1).mono ?_; rintro e w1 ⟨rfl, hb⟩; replace N0 := Lib.hid (N0.out.next hb); clear hb; clear x0 x1 xf0 xf1 y0 y1 y2 y3 y4 y5 y6 y7 y8 y9 y10 z0 z1 zf0 zf1; obtain ⟨x0, x1, xf0, xf1⟩ := N0.out.1.c2; obtain ⟨y0, y1, y2, y3, y4, y5, y6, y7, y8, y9, y10⟩ := N0.out.2.1.c11; obtain ⟨z0, z1, zf0, zf1⟩ := N0.out.2.2.1.c2) | (go_at_call 63; refine (KE.out _ N0.out.2.2.2.2.2.1.1 N0.out.2.2.2.1).mono ?_; rintro e w1 ⟨rfl, hb⟩; replace N0 := Lib.hid (N0.out.next hb); clear hb; clear x0 x1 xf0 xf1 y0 y1 y2 y3 y4 y5 y6 y7 y8 y9 y10 z0 z1 zf0 zf1; obtain ⟨x0, x1, xf0, xf1⟩ := N0.out.1.c2; obtain ⟨y0, y1, y2, y3, y4, y5, y6, y7, y8, y9, y10⟩ := N0.out.2.1.c11; obtain ⟨z0, z1, zf0, zf1⟩ := N0.out.2.2.1.c2) | (go_at_call 64; refine (KA.out _ N0.out.2.2.2.1).mono ?_; rintro e w1 ⟨rfl, hb⟩; replace N0 := Lib.hid (N0.out.next hb); clear hb; clear x0 x1 xf0 xf1 y0 y1 y2 y3 y4 y5 y6 y7 y8 y9 y10 z0 z1 zf0 zf1; obtain ⟨x0, x1, xf0, xf1⟩ := N0.out.1.c2; obtain ⟨y0, y1, y2, y3, y4, y5, y6, y7, y8, y9, y10⟩ := N0.out.2.1.c11; obtain ⟨z0, z1, zf0, zf1⟩ := N0.out.2.2.1.c2))
            obtain ⟨r1, r2, r3, r4⟩ := N0.out.ans (p2 := none) (n2 := 0) (c2 := 0) (q2 := none) (m2 := 0) (d2 := 0) (S2 := []) (V2 := []) (.inl ⟨rfl, rfl⟩) (.inl ⟨rfl, rfl⟩)
            obtain ⟨k0, k1, _, _⟩ := r1.c2
            refine bodyPost_ret (v := .tuple #[.agg #[.slice none 0 0, .slice none 0 0], .int .i64 42]) (by simp [results, Try.results31, go_sem, k0, k1]) rfl ?_
            rw [HC.out]
            exact ⟨none, 0, none, 0, rfl, r2, r3, r4, Nat.zero_le _, Nat.zero_le _⟩
        · rw [eqL_false g4] at KE
          have HC : Hid (nextF S V h ep = ([], [], 43)) := Lib.hid (by unfold nextF; rw [if_pos ⟨g1, g2, g3⟩, if_neg g4])
          clear g1 g2 g4
          go_wp2_with (first | (go_at_call 62; refine (KR.out _ N0.out.2.2.2.1 N0.out.2.2.2.2.1).mono ?_; rintro e w1 ⟨rfl, hb⟩; replace N0 := Lib.hid (N0.out.next hb); clear hb; clear x0 x1 xf0 xf1 y0 y1 y2 y3 y4 y5 y6 y7 y8 y9 y10 z0 z1 zf0 zf1; obtain ⟨x0, x1, xf0, xf1⟩ := N0.out.1.c2; obtain ⟨y0, y1, y2, y3, y4, y5, y6, y7, y8, y9, y10⟩ := N0.out.2.1.c11; obtain ⟨z0, z1, zf0, zf1⟩ := N0.out.2.2.1.c2) | (go_at_call 24; refine (KH.out _ N0.out.2.2.2.2.2.1).mono ?_; rintro e w1 ⟨rfl, hb⟩; replace N0 := Lib.hid (N0.out.next hb); clear hb; clear x0 x1 xf0 xf1 y0 y1 y2 y3 y4 y5 y6 y7 y8 y9 y10 z0 z1 zf0 zf1; obtain ⟨x0, x1, xf0, xf1⟩ := N0.out.1.c2; obtain ⟨y0, y1, y2, y3, y4, y5, y6, y7, y8, y9, y10⟩ := N0.out.2.1.c11; obtain ⟨z0, z1, zf0, zf1⟩ := N0.out.2.2.1.c2) | (go_at_call 63; refine (KE.out _ N0.out.2.2.2.2.2.1.1 N0.out.2.2.2.1).mono ?_; rintro e w1 ⟨rfl, hb⟩; replace N0 := Lib.hid (N0.out.next hb); clear hb; clear x0 x1 xf0 xf1 y0 y1 y2 y3 y4 y5 y6 y7 y8 y9 y10 z0 z1 zf0 zf1; obtain ⟨x0, x1, xf0, xf1⟩ := N0.out.1.c2; obtain ⟨y0, y1, y2, y3, y4, y5, y6, y7, y8, y9, y10⟩ := N0.out.2.1.c11; obtain ⟨z0, z1, zf0, zf1⟩ := N0.out.2.2.1.c2) | (go_at_call 64; refine (KA.out _ N0.out.2.2.2.1).mono ?_; rintro e w1 ⟨rfl, hb⟩; replace N0 := Lib.hid (N0.out.next hb); clear hb; clear x0 x1 xf0 xf1 y0 y1 y2 y3 y4 y5 y6 y7 y8 y9 y10 z0 z1 zf0 zf1; obtain ⟨x0, x1, xf0, xf1⟩ := N0.out.1.c2; obtain ⟨y0, y1, y2, y3, y4, y5, y6, y7, y8, y9, y10⟩ := N0.out.2.1.c11; obtain ⟨z0, z1, zf0, zf1⟩ := N0.out.2.2.1.c2))
          obtain ⟨r1, r2, r3, r4⟩ := N0.out.ans (p2 := none) (n2 := 0) (c2 := 0) (q2 := none) (m2 := 0) (d2 := 0) (S2 := []) (V2 := []) (.inl ⟨rfl, rfl⟩) (.inl ⟨rfl, rfl⟩)
          obtain ⟨k0, k1, _, _⟩ := r1.c2
          refine bodyPost_ret (v := .tuple #[.agg #[.slice none 0 0, .slice none 0 0], .int .i64 43]) (by simp [results, Try.results31, go_sem, k0, k1]) rfl ?_
          rw [HC.out]
          exact ⟨none, 0, none, 0, rfl, r2, r3, r4, Nat.zero_le _, Nat.zero_le _⟩
    · rw [hdL_false g2] at KH
      have HC : Hid (nextF S V h ep = ([], [], 1)) := Lib.hid (by unfold nextF; rw [if_neg (fun hh => g2 hh.2.1)])
      clear g1 g2
      go_wp2_with (first | (go_at_call 62; refine (KR.out _ N0.out.2.2.2.1 N0.out.2.2.2.2.1).mono ?_; rintro e w1 ⟨rfl, hb⟩; replace N0 := Lib.hid (N0.out.next hb); clear hb; clear x0 x1 xf0 xf1 y0 y1 y2 y3 y4 y5 y6 y7 y8 y9 y10 z0 z1 zf0 zf1; obtain ⟨x0, x1, xf0, xf1⟩ := N0.out.1.c2; obtain ⟨y0, y1, y2, y3, y4, y5, y6, y7, y8, y9, y10⟩ := N0.out.2.1.c11; obtain ⟨z0, z1, zf0, zf1⟩ := N0.out.2.2.1.c2) | (go_at_call 24; refine (KH.out _ N0.out.2.2.2.2.2.1).mono ?_; rintro e w1 ⟨rfl, hb⟩; replace N0 := Lib.hid (N0.out.next hb); clear hb; clear x0 x1 xf0 xf1 y0 y1 y2 y3 y4 y5 y6 y7 y8 y9 y10 z0 z1 zf0 zf1; obtain ⟨x0, x1, xf0, xf1⟩ := N0.out.1.c2; obtain ⟨y0, y1, y2, y3, y4, y5, y6, y7, y8, y9, y10⟩ := N0.out.2.1.c11; obtain ⟨z0, z1, zf0, zf1⟩ := N0.out.2.2.1.c2) | (go_at_call 63; refine (KE.out _ N0.out.2.2.2.2.2.1.1 N0.out.2.2.2.1).mono ?_; rintro e w1 ⟨rfl, hb⟩; replace N0 := Lib.hid (N0.out.next hb); clear hb; clear x0 x1 xf0 xf1 y0 y1 y2 y3 y4 y5 y6 y7 y8 y9 y10 z0 z1 zf0 zf1; obtain ⟨x0, x1, xf0, xf1⟩ := N0.out.1.c2; obtain ⟨y0, y1, y2, y3, y4, y5, y6, y7, y8, y9, y10⟩ := N0.out.2.1.c11; obtain ⟨z0, z1, zf0, zf1⟩ := N0.out.2.2.1.c2) | (go_at_call 64; refine (KA.out _ N0.out.2.2.2.1).mono ?_; rintro e w1 ⟨rfl, hb⟩; replace N0 := Lib.hid (N0.out.next hb); clear hb; clear x0 x1 xf0 xf1 y0 y1 y2 y3 y4 y5 y6 y7 y8 y9 y10 z0 z1 zf0 zf1; obtain ⟨x0, x1, xf0, xf1⟩ := N0.out.1.c2; obtain ⟨y0, y1, y2, y3, y4, y5, y6, y7, y8, y9, y10⟩ := N0.out.2.1.c11; obtain ⟨z0, z1, zf0, zf1⟩ := N0.out.2.2.1.c2))
      obtain ⟨r1, r2, r3, r4⟩ := N0.out.ans (p2 := none) (n2 := 0) (c2 := 0) (q2 := none) (m2 := 0) (d2 := 0) (S2 := []) (V2 := []) (.inl ⟨rfl, rfl⟩) (.inl ⟨rfl, rfl⟩)
      obtain ⟨k0, k1, _, _⟩ := r1.c2
      refine bodyPost_ret (v := .tuple #[.agg #[.slice none 0 0, .slice none 0 0], .int .i64 1]) (by simp [results, Try.results31, go_sem, k0, k1]) rfl ?_
      rw [HC.out]
      exact ⟨none, 0, none, 0, rfl, r2, r3, r4, Nat.zero_le _, Nat.zero_le _⟩
  · rw [rightL_false g1] at KR
    have HC : Hid (nextF S V h ep = ([], [], 1)) := Lib.hid (by unfold nextF; rw [if_neg (fun hh => g1 hh.1)])
    clear g1
    go_wp2_with (first | (go_at_call 62; refine (KR.out _ N0.out.2.2.2.1 N0.out.2.2.2.2.1).mono ?_; rintro e w1 ⟨rfl, hb⟩; replace N0 := Lib.hid (N0.out.next hb); clear hb; clear x0 x1 xf0 xf1 y0 y1 y2 y3 y4 y5 y6 y7 y8 y9 y10 z0 z1 zf0 zf1; obtain ⟨x0, x1, xf0, xf1⟩ := N0.out.1.c2; obtain ⟨y0, y1, y2, y3, y4, y5, y6, y7, y8, y9, y10⟩ := N0.out.2.1.c11; obtain ⟨z0, z1, zf0, zf1⟩ := N0.out.2.2.1.c2) | (go_at_call 24; refine (KH.out _ N0.out.2.2.2.2.2.1).mono ?_; rintro e w1 ⟨rfl, hb⟩; replace N0 := Lib.hid (N0.out.next hb); clear hb; clear x0 x1 xf0 xf1 y0 y1 y2 y3 y4 y5 y6 y7 y8 y9 y10 z0 z1 zf0 zf1; obtain ⟨x0, x1, xf0, xf1⟩ := N0.out.1.c2; obtain ⟨y0, y1, y2, y3, y4, y5, y6, y7, y8, y9, y10⟩ := N0.out.2.1.c11; obtain ⟨z0, z1, zf0, zf1⟩ := N0.out.2.2.1.c2) | (go_at_call 63; refine (KE.out _ N0.out.2.2.2.2.2.1.1 N0.out.2.2.2.1).mono ?_; rintro e w1 ⟨rfl, hb⟩; replace N0 := Lib.hid (N0.out.next hb); clear hb; clear x0 x1 xf0 xf1 y0 y1 y2 y3 y4 y5 y6 y7 y8 y9 y10 z0 z1 zf0 zf1; obtain ⟨x0, x1, xf0, xf1⟩ := N0.out.1.c2; obtain ⟨y0, y1, y2, y3, y4, y5, y6, y7, y8, y9, y10⟩ := N0.out.2.1.c11; obtain ⟨z0, z1, zf0, zf1⟩ := N0.out.2.2.1.c2) | (go_at_call 64; refine (KA.out _ N0.out.2.2.2.1).mono ?_; rintro e w1 ⟨rfl, hb⟩; replace N0 := Lib.hid (N0.out.next hb); clear hb; clear x0 x1 xf0 xf1 y0 y1 y2 y3 y4 y5 y6 y7 y8 y9 y10 z0 z1 zf0 zf1; obtain ⟨x0, x1, xf0, xf1⟩ := N0.out.1.c2; obtain ⟨y0, y1, y2, y3, y4, y5, y6, y7, y8, y9, y10⟩ := N0.out.2.1.c11; obtain ⟨z0, z1, zf0, zf1⟩ := N0.out.2.2.1.c2))
    obtain ⟨r1, r2, r3, r4⟩ := N0.out.ans (p2 := none) (n2 := 0) (c2 := 0) (q2 := none) (m2 := 0) (d2 := 0) (S2 := []) (V2 := []) (.inl ⟨rfl, rfl⟩) (.inl ⟨rfl, rfl⟩)
    obtain ⟨k0, k1, _, _⟩ := r1.c2
    refine bodyPost_ret (v := .tuple #[.agg #[.slice none 0 0, .slice none 0 0], .int .i64 1]) (by simp [results, Try.results31, go_sem, k0, k1]) rfl ?_
    rw [HC.out]
    exact ⟨none, 0, none, 0, rfl, r2, r3, r4, Nat.zero_le _, Nat.zero_le _⟩
end Go.Proofs.Ythipnbiilobjeaa

namespace Go.Proofs.Ythipnbiilobjeaa
open Go.RowKit Go.Shelf

set_option maxRecDepth 100000 in
set_option maxHeartbeats 4000000 in
theorem rfold_any (sv : Value) (S : List ByteArray) (lv : Value) (L : List HS) (ep : Int) (w : World) (hS : RowE encS w sv S) (hL : RowE encH w lv L) (hok : ∀ x ∈ L, HsOk w x) (hl : L.length ≤ 30) (hl2 : S.length ≤ 100) (he : 0 ≤ ep) :
    Calls Try.prog 33 #[sv, lv, .int .u64 ep] w (FoldPost (foldF S L ep) w) := by
  obtain ⟨pS, cS, rfl, s1, s2⟩ := RowE.shape encS hS
  obtain ⟨pL, cL, rfl, s3, s4⟩ := RowE.shape encH hL
  have hn : ∀ W : World, RowE encB W (.slice none 0 0) [] := fun W => .inl ⟨rfl, rfl⟩
  have KR := Lib.hid (fun W a => rright_any (.slice pS S.length cS) (.slice none 0 0) S [] W a (hn W) (by simp) (by omega))
  have HL := Lib.hid hL
  have HOK := Lib.hid hok
  have F0 : Hid (FdSt w (.slice pS S.length cS) S (.slice none 0 0) [] _) := Lib.hid ⟨(RowAt.new w #[.slice none 0 0, .slice none 0 0] 45).alloc _, RowAt.new' (w.alloc (.cells #[.slice none 0 0, .slice none 0 0] 45)) #[.slice pS S.length cS, .slice none 0 0] 45 (k := w.heap.size + 1) (by simp), hS.below encS (belowA2 w _ _) (Nat.le_refl _), hn _, belowA2 w _ _⟩
  clear hS hL hok
  unfold maxLen at s4
  go_enter Try.func33, Try.ntmps33
  go_upto_region 2 with (fail)
  generalize (w.alloc (.cells #[.slice none 0 0, .slice none 0 0] 45)).alloc (.cells #[.slice pS S.length cS, .slice none 0 0] 45) = W at *
  obtain ⟨x0, x1, xf0, xf1⟩ := F0.out.2.1.c2
  obtain ⟨z0, z1, zf0, zf1⟩ := F0.out.1.c2
  by_cases g1 : RightOk S []
  · rw [rightL_true g1] at KR
    by_cases g2 : ep = 0
    · have HC : Hid (foldF S L ep = ([], [], 1)) := Lib.hid (by unfold foldF; rw [if_neg (fun h => h.2 g2)])
      subst g2
      clear g1
      go_wp2_with (go_at_call 62; refine (KR.out _ F0.out.2.2.1).mono ?_; rintro e w1 ⟨rfl, hb⟩; replace F0 := Lib.hid (F0.out.next hb); clear hb x0 x1 xf0 xf1 z0 z1 zf0 zf1; obtain ⟨z0, z1, zf0, zf1⟩ := F0.out.1.c2)
      obtain ⟨r1, r2, r3, r4⟩ := F0.out.ans (p2 := none) (n2 := 0) (c2 := 0) (q2 := none) (m2 := 0) (d2 := 0) (S2 := []) (V2 := []) (.inl ⟨rfl, rfl⟩) (.inl ⟨rfl, rfl⟩)
      obtain ⟨k0, k1, _, _⟩ := r1.c2
      try rw [Exit.noGoto_ret]
      refine bodyPost_ret (v := .tuple #[.agg #[.slice none 0 0, .slice none 0 0], .int .i64 1]) (by simp [results, Try.results33, go_sem, k0, k1]) rfl ?_
      rw [HC.out]
      exact ⟨none, 0, none, 0, rfl, r2, r3, r4, Nat.zero_le _, Nat.zero_le _⟩
    · have HC : Hid (foldF S L ep = foldFrom ep L S []) := Lib.hid (by unfold foldF; rw [if_pos ⟨g1, g2⟩])
      clear g1
      have hep : (ep == 0) = false := by simp [g2]
      go_upto_region 4 with (go_at_call 62; refine (KR.out _ F0.out.2.2.1).mono ?_; rintro e w1 ⟨rfl, hb⟩; replace F0 := Lib.hid (F0.out.next hb); clear hb x0 x1 xf0 xf1 z0 z1 zf0 zf1)
      have HC2 := Lib.hid (show foldFrom ep L S [] = foldFrom ep (L.drop 0) S [] from rfl)
      go_wp2
      go_loopw [25] (fun s24 wr => ∃ (k : Nat) (S' : List ByteArray) (V' : List Bal) (p : Option Addr) (c : Nat) (q : Option Addr) (d : Nat), k ≤ L.length ∧ s24 = .int .i64 k ∧ S'.length ≤ S.length + k ∧ V'.length ≤ k ∧ Hid (foldFrom ep L S [] = foldFrom ep (L.drop k) S' V') ∧ Hid (FdSt w (.slice p S'.length c) S' (.slice q V'.length d) V' wr)) (fun s _ => L.length - (intOf s).toNat)
      case atStart => exact ⟨0, S, [], pS, cS, none, 0, Nat.zero_le _, rfl, Nat.le_refl _, Nat.le_refl _, HC2, F0⟩
      case round =>
        clear F0 HC2
        obtain ⟨k, S', V', p, c, q, d, hk, rfl, hsl, hvl, hfo, hf⟩ := hrel
        have F0 := Lib.hid hf.out
        have HFO := Lib.hid hfo.out
        clear hf hfo
        by_cases hlt : k < L.length
        · have hg := List.getElem?_eq_getElem hlt
          obtain ⟨a, rfl, hc⟩ := RowE.atH (RowE.below encH HL.out F0.out.2.2.2.2 (Nat.le_refl _)) k L[k] hg
          have hdr : L.drop k = L[k] :: L.drop (k + 1) := List.drop_eq_getElem_cons hlt
          have hxok := HOK.out L[k] (List.getElem_mem hlt)
          generalize L[k] = x at *
          have HFO2 := HFO.out
          rw [hdr, foldFrom] at HFO2
          have c0 := hc 0 _ rfl
          have c1 := hc 1 _ rfl
          have c2 := hc 2 _ rfl
          have c3 := hc 3 _ rfl
          have c4 := hc 4 _ rfl
          have c5 := hc 5 _ rfl
          have c6 := hc 6 _ rfl
          have c7 := hc 7 _ rfl
          have c8 := hc 8 _ rfl
          have c9 := hc 9 _ rfl
          have c10 := hc 10 _ rfl
          clear hc hdr HFO hg
          replace c0 : wr.cell? (a.add (k * 11)) = _ := c0
          replace c1 : wr.cell? ⟨(a.add (k * 11)).block, (a.add (k * 11)).off + 1, none⟩ = _ := c1
          replace c2 : wr.cell? ⟨(a.add (k * 11)).block, (a.add (k * 11)).off + 2, none⟩ = _ := c2
          replace c3 : wr.cell? ⟨(a.add (k * 11)).block, (a.add (k * 11)).off + 3, none⟩ = _ := c3
          replace c4 : wr.cell? ⟨(a.add (k * 11)).block, (a.add (k * 11)).off + 4, none⟩ = _ := c4
          replace c5 : wr.cell? ⟨(a.add (k * 11)).block, (a.add (k * 11)).off + 5, none⟩ = _ := c5
          replace c6 : wr.cell? ⟨(a.add (k * 11)).block, (a.add (k * 11)).off + 6, none⟩ = _ := c6
          replace c7 : wr.cell? ⟨(a.add (k * 11)).block, (a.add (k * 11)).off + 7, none⟩ = _ := c7
          replace c8 : wr.cell? ⟨(a.add (k * 11)).block, (a.add (k * 11)).off + 8, none⟩ = _ := c8
          replace c9 : wr.cell? ⟨(a.add (k * 11)).block, (a.add (k * 11)).off + 9, none⟩ = _ := c9
          replace c10 : wr.cell? ⟨(a.add (k * 11)).block, (a.add (k * 11)).off + 10, none⟩ = _ := c10
          have HA2 := belowA wr (.cells (hsc x) 36)
          have F2 := Lib.hid (F0.out.next HA2)
          have KN := rnext_any _ _ S' V' x.1 x.sv x.gv ep _ F2.out.2.2.1 F2.out.2.2.2.1 (hxok.below F2.out.2.2.2.2).1 (by omega) (by omega) hxok.2.1 he hxok.2.2
          have HBAD := Lib.hid (fun h => nextF_bad (S := S') (V := V') (h := x.1) (ep := ep) h)
          generalize hr : nextF S' V' x.1 ep = r at *
          obtain ⟨Z, VZ, cz⟩ := r
          clear hr
          have KN := Lib.hid KN
          have HFO := Lib.hid HFO2
          clear HFO2 HA2 F0
          obtain ⟨x, ⟨pv, cv⟩, ⟨pg, cg⟩⟩ := x
          obtain ⟨pa, ht, ro, tx, pr, va, val, vo, ad, rd, se⟩ := x
          simp only [HS.sv, HS.gv] at *
          go_upto_region 7 with (fail)
          replace F2 : Hid (FdSt w (.slice p S'.length c) S' (.slice q V'.length d) V' (wr.alloc (.cells #[.string pa, .int .u64 ht, .string ro, .string tx, .string pr, .string va, .slice pv val.length cv, .string vo, .bool ad, .int .u64 rd, .slice pg se.length cg] 36))) := F2
          have RX : Hid (RowAt (wr.alloc (.cells #[.string pa, .int .u64 ht, .string ro, .string tx, .string pr, .string va, .slice pv val.length cv, .string vo, .bool ad, .int .u64 rd, .slice pg se.length cg] 36)) wr.heap.size #[.string pa, .int .u64 ht, .string ro, .string tx, .string pr, .string va, .slice pv val.length cv, .string vo, .bool ad, .int .u64 rd, .slice pg se.length cg] 36) := Lib.hid (RowAt.new wr _ _)
          replace KN : Hid (Calls Try.prog 31 #[.agg #[.slice p S'.length c, .slice q V'.length d], .agg #[.string pa, .int .u64 ht, .string ro, .string tx, .string pr, .string va, .slice pv val.length cv, .string vo, .bool ad, .int .u64 rd, .slice pg se.length cg], .int .u64 ep] (wr.alloc (.cells #[.string pa, .int .u64 ht, .string ro, .string tx, .string pr, .string va, .slice pv val.length cv, .string vo, .bool ad, .int .u64 rd, .slice pg se.length cg] 36)) (SnapPost (Z, VZ, cz) (S'.length + 1) (V'.length + 1) (wr.alloc (.cells #[.string pa, .int .u64 ht, .string ro, .string tx, .string pr, .string va, .slice pv val.length cv, .string vo, .bool ad, .int .u64 rd, .slice pg se.length cg] 36)))) := KN
          generalize (wr.alloc (.cells #[.string pa, .int .u64 ht, .string ro, .string tx, .string pr, .string va, .slice pv val.length cv, .string vo, .bool ad, .int .u64 rd, .slice pg se.length cg] 36)) = w6 at *
          generalize wr.heap.size = kx at *
          clear c0 c1 c2 c3 c4 c5 c6 c7 c8 c9 c10 hxok
          obtain ⟨x0, x1, xf0, xf1⟩ := F2.out.2.1.c2
          obtain ⟨y0, y1, y2, y3, y4, y5, y6, y7, y8, y9, y10⟩ := RX.out.c11
          go_upto_region 8 with (go_at_call 31; refine KN.out.mono ?_; rintro e w7 ⟨pZ, cZ, pVZ, cVZ, rfl, hZ, hVZ, hb, l1, l2⟩; simp only at hZ hVZ l1 l2; have F3 := Lib.hid (F2.out.next (hb.alloc hb.size (.cells #[.slice pZ Z.length cZ, .slice pVZ VZ.length cVZ] 45))); have HZ : Hid (RS _ _ Z) := Lib.hid (RowE.below encS hZ (belowA w7 (.cells #[.slice pZ Z.length cZ, .slice pVZ VZ.length cVZ] 45)) (Nat.le_refl _)); have HVZ : Hid (RB _ _ VZ) := Lib.hid (RowE.below encB hVZ (belowA w7 (.cells #[.slice pZ Z.length cZ, .slice pVZ VZ.length cVZ] 45)) (Nat.le_refl _)); clear hZ hVZ x0 x1 xf0 xf1 y0 y1 y2 y3 y4 y5 y6 y7 y8 y9 y10 hb RX F2 KN)
          have RZ := Lib.hid (RowAt.new w7 #[.slice pZ Z.length cZ, .slice pVZ VZ.length cVZ] 45)
          generalize (w7.alloc (.cells #[.slice pZ Z.length cZ, .slice pVZ VZ.length cVZ] 45)) = w8 at *
          generalize w7.heap.size = kz at *
          have hfo := HFO.out
          clear HFO
          obtain ⟨x0, x1, xf0, xf1⟩ := F3.out.2.1.c2
          by_cases hcx : cz = 0
          · rw [if_pos hcx] at hfo
            have HF2 := Lib.hid hfo
            clear hfo HBAD
            subst hcx
            obtain ⟨u0, u1, uf0, uf1⟩ := RZ.out.c2
            have F5 := Lib.hid (F3.out.put HZ.out HVZ.out)
            go_wp2
            exact ⟨⟨k + 1, Z, VZ, pZ, cZ, pVZ, cVZ, by omega, by simp, by omega, by omega, HF2, F5⟩, by simp [intOf]; omega⟩
          · rw [if_neg hcx] at hfo
            obtain ⟨e1, e2⟩ := HBAD.out hcx
            try simp only at e1 e2
            subst e1 e2
            have HF2 := Lib.hid hfo
            have gq : (cz != 0) = true := by simp [hcx]
            clear hfo HBAD hcx
            obtain ⟨z0, z1, zf0, zf1⟩ := F3.out.1.c2
            go_wp2
            obtain ⟨r1, r2, r3, r4⟩ := F3.out.ans (p2 := none) (n2 := 0) (c2 := 0) (q2 := none) (m2 := 0) (d2 := 0) (S2 := []) (V2 := []) (.inl ⟨rfl, rfl⟩) (.inl ⟨rfl, rfl⟩)
            obtain ⟨k0, k1, _, _⟩ := r1.c2
            try rw [Exit.noGoto_ret]
            refine bodyPost_ret (v := .tuple #[.agg #[.slice none 0 0, .slice none 0 0], .int .i64 cz]) (by simp [results, Try.results33, go_sem, k0, k1]) rfl ?_
            rw [HC.out, HF2.out]
            exact ⟨none, 0, none, 0, rfl, r2, r3, r4, Nat.zero_le _, Nat.zero_le _⟩
        · obtain rfl : k = L.length := by omega
          have HFO2 := HFO.out
          rw [List.drop_length, foldFrom] at HFO2
          have HFO := Lib.hid HFO2
          clear HFO2
          obtain ⟨x0, x1, xf0, xf1⟩ := F0.out.2.1.c2
          obtain ⟨z0, z1, zf0, zf1⟩ := F0.out.1.c2
          go_wp2
          obtain ⟨r1, r2, r3, r4⟩ := F0.out.ans F0.out.2.2.1 F0.out.2.2.2.1
          obtain ⟨k0, k1, _, _⟩ := r1.c2
          try rw [Exit.noGoto_ret]
          refine bodyPost_ret (v := .tuple #[.agg #[.slice p S'.length c, .slice q V'.length d], .int .i64 0]) (by simp [results, Try.results33, go_sem, k0, k1]) rfl ?_
          rw [HC.out, HFO.out]
          exact ⟨p, c, q, d, rfl, r2, r3, r4, (by show S'.length ≤ 1000; omega), (by show V'.length ≤ 1000; omega)⟩
  · rw [rightL_false g1] at KR
    have HC : Hid (foldF S L ep = ([], [], 1)) := Lib.hid (by unfold foldF; rw [if_neg (fun h => g1 h.1)])
    clear g1
    go_wp2_with (go_at_call 62; refine (KR.out _ F0.out.2.2.1).mono ?_; rintro e w1 ⟨rfl, hb⟩; replace F0 := Lib.hid (F0.out.next hb); clear hb x0 x1 xf0 xf1 z0 z1 zf0 zf1; obtain ⟨z0, z1, zf0, zf1⟩ := F0.out.1.c2)
    obtain ⟨r1, r2, r3, r4⟩ := F0.out.ans (p2 := none) (n2 := 0) (c2 := 0) (q2 := none) (m2 := 0) (d2 := 0) (S2 := []) (V2 := []) (.inl ⟨rfl, rfl⟩) (.inl ⟨rfl, rfl⟩)
    obtain ⟨k0, k1, _, _⟩ := r1.c2
    try rw [Exit.noGoto_ret]
    refine bodyPost_ret (v := .tuple #[.agg #[.slice none 0 0, .slice none 0 0], .int .i64 1]) (by simp [results, Try.results33, go_sem, k0, k1]) rfl ?_
    rw [HC.out]
    exact ⟨none, 0, none, 0, rfl, r2, r3, r4, Nat.zero_le _, Nat.zero_le _⟩
end Go.Proofs.Ythipnbiilobjeaa
