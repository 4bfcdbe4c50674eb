/- Nibble: the reference's Pack and Unpack; what Unpack answers, in one word. The reference's told, given its item. Some trees behind a row that is none; the reference's item of one pair. The reference's item of pairs that begin alike. The reference's item of pairs that part. What a node below is told by, as the program has it. -/
import Derived.Test.YtefmlbckbhlgdaaTm6
import Derived.Test.YtefmlbckbhlgdaaTm16
import Derived.Test.YtefmlbckbhlgdaaTm17
namespace Go.Proofs.Ytefmlbckbhlgdaa
open Go.RowKit
set_option maxRecDepth 100000
theorem packB_eq (part : ByteArray) (ends : Bool) : packB part ends = bstr (packL part.data.toList ends) := by
  unfold packB joinB packL bstr
  congr 2
  congr 1
  rw [ByteArray.data_append, Array.toList_append]
  congr 1
  unfold aheadB
  have e : part.data.toList.length = part.size := by simp
  rw [e]
  rcases Nat.mod_two_eq_zero_or_one part.size with hp | hp
  · rw [if_pos hp, if_pos hp]
    have := pack_even_flag part hp
    cases ends
    · rw [this.1]; rfl
    · rw [this.2]; rfl
  · rw [if_neg (by omega), if_neg (by omega)]
    have := pack_odd_flag part hp
    cases ends
    · rw [this.1]; rfl
    · rw [this.2]; rfl

set_option maxHeartbeats 2000000 in
theorem rpack_any (part : ByteArray) (ends : Bool) (w : World) (hs : part.size ≤ 100000) :
    Calls Try.prog 93 #[.string part, .bool ends] w fun e w' => e = .returned (.string (packB part ends)) ∧ Below w.heap.size w w' := by
  rcases Nat.mod_two_eq_zero_or_one part.size with hp | hp
  · have hfl := pack_even_flag part hp
    have ha : aheadB part ends = ⟨#[flagB part ends, 0]⟩ := by unfold aheadB; rw [if_pos hp]
    have e1 : ((part.size : Int) % 2) = 0 := by omega
    have hpk : packB part ends = joinB (⟨#[flagB part ends, 0]⟩ ++ part) := by unfold packB; rw [ha]
    have HP := Lib.hid hpk
    have hsz : ((⟨#[flagB part ends, 0]⟩ : ByteArray) ++ part).size ≤ 1000000 := by rw [ByteArray.size_append]; show 2 + part.size ≤ _; omega
    have HZ := Lib.hid hsz
    clear hp ha hpk hsz
    cases ends
    · have cv := fun (w : World) => (OwnB.two (w := w) (Nat.le_refl _) 0 0 (x := 0) (y := 0) (by decide) (by decide)).conv
      rw [hfl.1] at HP HZ
      clear hfl
      go_enter Try.func93, Try.ntmps93
      go_wp2_with (first
        | (go_at_call 142; refine (rbytes_any _ _ HZ.out).mono ?_; rintro e w1 ⟨rfl, hb1⟩))
      go_ret
      rw [HP.out]
      exact ⟨rfl, ((Below.refl _ _).alloc (Nat.le_refl _) _).trans (hb1.mono (by simp))⟩
    · have cv := fun (w : World) => (OwnB.two (w := w) (Nat.le_refl _) 2 0 (x := 2) (y := 0) (by decide) (by decide)).conv
      rw [hfl.2] at HP HZ
      clear hfl
      go_enter Try.func93, Try.ntmps93
      go_wp2_with (first
        | (go_at_call 142; refine (rbytes_any _ _ HZ.out).mono ?_; rintro e w1 ⟨rfl, hb1⟩))
      go_ret
      rw [HP.out]
      exact ⟨rfl, ((Below.refl _ _).alloc (Nat.le_refl _) _).trans (hb1.mono (by simp))⟩
  · have hfl := pack_odd_flag part hp
    have ha : aheadB part ends = ⟨#[flagB part ends]⟩ := by unfold aheadB; rw [if_neg (by omega)]
    have e1 : ((part.size : Int) % 2) = 1 := by omega
    have hpk : packB part ends = joinB (⟨#[flagB part ends]⟩ ++ part) := by unfold packB; rw [ha]
    have HP := Lib.hid hpk
    have hsz : ((⟨#[flagB part ends]⟩ : ByteArray) ++ part).size ≤ 1000000 := by rw [ByteArray.size_append]; show 1 + part.size ≤ _; omega
    have HZ := Lib.hid hsz
    clear hp ha hpk hsz
    cases ends
    · have cv := fun (w : World) => (OwnB.one (w := w) (Nat.le_refl _) 1 (x := 1) (by decide)).conv
      rw [hfl.1] at HP HZ
      clear hfl
      go_enter Try.func93, Try.ntmps93
      go_wp2_with (first
        | (go_at_call 142; refine (rbytes_any _ _ HZ.out).mono ?_; rintro e w1 ⟨rfl, hb1⟩))
      go_ret
      rw [HP.out]
      exact ⟨rfl, ((Below.refl _ _).alloc (Nat.le_refl _) _).trans (hb1.mono (by simp))⟩
    · have cv := fun (w : World) => (OwnB.one (w := w) (Nat.le_refl _) 3 (x := 3) (by decide)).conv
      rw [hfl.2] at HP HZ
      clear hfl
      go_enter Try.func93, Try.ntmps93
      go_wp2_with (first
        | (go_at_call 142; refine (rbytes_any _ _ HZ.out).mono ?_; rintro e w1 ⟨rfl, hb1⟩))
      go_ret
      rw [HP.out]
      exact ⟨rfl, ((Below.refl _ _).alloc (Nat.le_refl _) _).trans (hb1.mono (by simp))⟩

end Go.Proofs.Ytefmlbckbhlgdaa
namespace Go.Proofs.Ytefmlbckbhlgdaa
open Go.RowKit Go.Shelf
set_option maxRecDepth 100000
mutual
theorem weight_le_write : ∀ x : It, x.pure → x.weight ≤ 2 * x.write.length
  | .mk l b ks, h => by
    rw [It.pure] at h
    have hk := weights_le_writes ks h.2.2
    rw [It.write, It.weight]
    cases l with
    | true =>
      rw [if_pos rfl, List.length_append]
      have := headL_pos 192 (writes ks).length
      rw [h.1 rfl]
      simp only [List.length_nil]
      omega
    | false =>
      obtain rfl := h.2.1 rfl
      rw [if_neg (by simp)]
      simp only [weights]
      split
      · omega
      · have := headL_pos 128 b.length
        rw [List.length_append]
        omega
theorem weights_le_writes : ∀ ks : List It, pures ks → weights ks ≤ 2 * (writes ks).length
  | [], _ => by simp [weights]
  | k :: ks, h => by
    rw [pures] at h
    have h1 := weight_le_write k h.1
    have h2 := weights_le_writes ks h.2
    rw [weights, writes, List.length_append]
    omega
end
theorem Good.is {l : Bool} {b : List UInt8} {ks : List It} {A : Nat → Prop} {w : World} {p : Option Addr} {n c : Nat} (h : Good (.mk l b ks)) (hr : RowT encIt A w (.slice p n c) (itTs ks)) : ItemIs w (.mk l b ks) (.agg #[.bool l, .string (mkS b), .slice p n c]) := by
  have hw := weight_le_write _ h.1
  have h2 := h.2.2
  rw [It.weight] at hw
  refine itemIs_iff.2 ⟨.slice p n c, rfl, by omega, kidsIs_of 100000 ks p n c (by omega) (by omega) hr⟩
theorem ItemAns.is {x : It} {w w' : World} {v : Value} (h : ItemAns x w v w') (hg : Good x) : ItemIs w' x v := by
  obtain ⟨l, b, p, n, c, ks, rfl, rfl, _, hr⟩ := h
  exact hg.is hr
theorem Good.write8 {x : It} (h : Good x) (v : Value) (w : World) (hv : ItemIs w x v) : Calls Try.prog 49 #[v] w fun e w' => e = .returned (.string (mkS x.write)) ∧ Below w.heap.size w w' :=
  rwrite_any x.size x (Nat.le_refl _) (by have := h.2.2; omega) v w hv

def RItemC (f : Nat) (l : List Pr) : Prop := ∀ (v : Value) (w : World), RP w v l → Calls Try.prog 50 #[v] w fun e w' => ∃ u, e = .returned u ∧ ItemAns (itemR f l) w u w'
def RToldC (f : Nat) (l : List Pr) : Prop := ∀ (v : Value) (w : World), RP w v l → Calls Try.prog 94 #[v] w fun e w' => ∃ u, e = .returned u ∧ ItemAns (toldW (itemR f) l) w u w'

set_option maxHeartbeats 4000000 in
theorem rtold_nil (f : Nat) : RToldC f [] := fun v w h => by
  obtain ⟨p, c, rfl, z1, z2⟩ := RowE.shape encP h
  have R := Lib.hid (RowAt.new w #[.bool false, .string ⟨#[]⟩, .slice none 0 0] 98)
  have HB := Lib.hid ((Below.refl w.heap.size w).alloc (Nat.le_refl _) (.cells #[.bool false, .string ⟨#[]⟩, .slice none 0 0] 98))
  obtain ⟨y0, y1, y2, yf0, yf1, yf2⟩ := R.out.c3
  go_enter Try.func94, Try.ntmps94
  go_upto_region 1 with (fail)
  generalize w.alloc (.cells #[.bool false, .string ⟨#[]⟩, .slice none 0 0] 98) = w1 at *
  go_wp2
  obtain ⟨r, bb⟩ := box3 R.out HB.out (Nat.le_refl _) (.bool false) (.string ⟨#[]⟩) (.slice none 0 0)
  obtain ⟨e0, e1, e2, _⟩ := r.c3
  refine bodyPost_ret (v := .agg #[.bool false, .string ⟨#[]⟩, .slice none 0 0]) (by simp [results, Try.results94, go_sem, e0, e1, e2]) rfl ?_
  exact ⟨_, rfl, itemAns_leaf (b := []) bb⟩

set_option maxHeartbeats 4000000 in
theorem rtold_some (f : Nat) (p0 : Pr) (t : List Pr) (hg : Good (itemR f (p0 :: t))) (hi : RItemC f (p0 :: t)) : RToldC f (p0 :: t) := fun v w h => by
  have KI := Lib.hid (fun W (hb : Below w.heap.size w W) => hi v W (RP.below h hb (Nat.le_refl _)))
  have HTW : Hid (toldW (itemR f) (p0 :: t) = referI (itemR f (p0 :: t))) := Lib.hid rfl
  have HG := Lib.hid hg
  generalize itemR f (p0 :: t) = x at *
  obtain ⟨p, c, rfl, z1, z2⟩ := RowE.shape encP h
  have hl : (0 : Int) < ((p0 :: t).length : Int) := by simp
  generalize (p0 :: t).length = ln at *
  have R := Lib.hid (RowAt.new w #[.bool false, .string ⟨#[]⟩, .slice none 0 0] 98)
  have HB := Lib.hid ((Below.refl w.heap.size w).alloc (Nat.le_refl _) (.cells #[.bool false, .string ⟨#[]⟩, .slice none 0 0] 98))
  have HS1 : Hid ((w.alloc (.cells #[.bool false, .string ⟨#[]⟩, .slice none 0 0] 98)).heap.size = w.heap.size + 1) := Lib.hid (by simp)
  clear h hg hi
  go_enter Try.func94, Try.ntmps94
  go_upto_region 1 with (fail)
  generalize w.alloc (.cells #[.bool false, .string ⟨#[]⟩, .slice none 0 0] 98) = w1 at *
  go_upto_region 4 with (go_at_call 50; (with_reducible refine (KI.out _ HB.out).mono ?_); rintro e w2 ⟨u, rfl, l, b, q, n, c2, ks, rfl, hx, hb, hr⟩; have HX := Lib.hid hx; have HR := Lib.hid hr; (replace R := Lib.hid (R.out.belowS hb); replace HB := Lib.hid (HB.out.trans (hb.mono HB.out.size)); clear hb); clear hx hr KI)
  have R3 := Lib.hid (RowAt.new w2 #[.bool l, .string (mkS b), .slice q n c2] 98)
  replace HR := Lib.hid (HR.out.below (bel1 w2 (.cells #[.bool l, .string (mkS b), .slice q n c2] 98)) (Nat.le_refl _))
  have HN3 : Hid (w.heap.size ≠ w2.heap.size) := Lib.hid (Nat.ne_of_lt R.out.lt)
  (replace R := Lib.hid (R.out.alloc (.cells #[.bool l, .string (mkS b), .slice q n c2] 98)); replace HB := Lib.hid (HB.out.alloc HB.out.size (.cells #[.bool l, .string (mkS b), .slice q n c2] 98)))
  generalize w2.alloc (.cells #[.bool l, .string (mkS b), .slice q n c2] 98) = w3 at *
  generalize w2.heap.size = k3 at *
  have hx := HX.out
  subst hx
  have KW := Lib.hid (HG.out.write8 (.agg #[.bool l, .string (mkS b), .slice q n c2]) w3 (HG.out.is HR.out))
  have hw4 := HG.out.2.2
  generalize hy : (It.mk l b ks).write = y at *
  obtain ⟨x0, x1, x2, xf0, xf1, xf2⟩ := R3.out.c3
  go_upto_region 5 with (go_at_call 49; (with_reducible refine KW.out.mono ?_); rintro e w4 ⟨rfl, hb⟩; replace HR := Lib.hid (HR.out.below hb (Nat.le_refl _)); (replace R := Lib.hid (R.out.belowS hb); replace R3 := Lib.hid (R3.out.belowS hb); replace HB := Lib.hid (HB.out.trans (hb.mono HB.out.size)); clear hb); clear KW)
  clear x0 x1 x2 xf0 xf1 xf2
  have z3 := mk_size y
  obtain ⟨y0, y1, y2, yf0, yf1, yf2⟩ := R.out.c3
  by_cases h32 : y.length < 32
  · have hq : ((mkS y).size : Int) < 32 := by omega
    obtain ⟨x0, x1, x2, xf0, xf1, xf2⟩ := R3.out.c3
    go_wp2
    obtain ⟨r, bb⟩ := box3 R.out HB.out (Nat.le_refl _) (.bool l) (.string (mkS b)) (.slice q n c2)
    obtain ⟨e0, e1, e2, _⟩ := r.c3
    refine bodyPost_ret (v := .agg #[.bool l, .string (mkS b), .slice q n c2]) (by simp [results, Try.results94, go_sem, e0, e1, e2]) rfl ?_
    refine ⟨_, rfl, l, b, q, n, c2, ks, rfl, ?_, bb, HR.out.keep (fun a v ha hc => by rw [World.cell?_setCell_other, World.cell?_setCell_other, World.cell?_setCell_other]; exact hc; all_goals (intro e; subst e; have := HS1.out; simp only at ha; omega)) (fun b hb => by have := HS1.out; omega)⟩
    rw [HTW.out, referI, hy, if_pos h32]
  · have hq : ¬ ((mkS y).size : Int) < 32 := by omega
    have KS : Hid (∀ W, Calls Try.prog 48 #[.string (mkS y)] W fun e w' => e = .returned (.string (mkS (sumL y))) ∧ Below W.heap.size W w') := Lib.hid (fun W => by
      have := rsum_any (mkS y) (by omega) W
      rwa [bl_mk] at this)
    go_wp2_with (go_at_call 48; (with_reducible refine (KS.out _).mono ?_); rintro e w5 ⟨rfl, hb⟩; (replace R := Lib.hid (R.out.belowS hb); replace HB := Lib.hid (HB.out.trans (hb.mono HB.out.size)); clear hb); clear KS y0 y1 y2 yf0 yf1 yf2; obtain ⟨y0, y1, y2, yf0, yf1, yf2⟩ := R.out.c3)
    obtain ⟨r, bb⟩ := box3 R.out HB.out (Nat.le_refl _) (.bool false) (.string (mkS (sumL y))) (.slice none 0 0)
    obtain ⟨e0, e1, e2, _⟩ := r.c3
    refine bodyPost_ret (v := .agg #[.bool false, .string (mkS (sumL y)), .slice none 0 0]) (by simp [results, Try.results94, go_sem, e0, e1, e2]) rfl ?_
    refine ⟨_, rfl, ?_⟩
    rw [HTW.out, referI, hy, if_neg h32]
    exact itemAns_leaf bb
end Go.Proofs.Ytefmlbckbhlgdaa
namespace Go.Proofs.Ytefmlbckbhlgdaa
open Go.RowKit Go.Shelf
set_option maxRecDepth 100000
section
variable {α : Type} {E : TE α} {A : Nat → Prop}
theorem TreeP.inHeap {w : World} {t : Tr α} {x : EV α} (h : TreeP E A w t x) : TreeP E (fun b => A b ∧ b < w.heap.size) w t x := by
  induction h with
  | leaf a p c hc hp => exact .leaf a p c hc hp
  | node a ks xs ad cap hn hl hAd hr hh ih => exact .node a ks xs ad cap hn hl ⟨hAd, RowE.lt hr (fun e => hn (List.eq_nil_of_length_eq_zero (by rw [← hl, e]; rfl)))⟩ hr ih
/-- Trees behind a row that is none: they lie in a new block. -/
theorem wpList_append_trees0 {ts te : TypeId} {z : Value} {bytes : Nat} (ht : Try.prog.underlying ts = some (.slice te)) (hinf : (Try.prog.info? te).map (fun i => (i.zero, i.size, i.bytes)) = some (some z, E.n + 1, bytes)) (hzs : z.cells.size = E.n + 1) (hbb : bytes ≤ 1000)
    {ops : Array Oper} {rest : List Oper} {o : Oper} {a : Act} {Q : Exit → Act → World → Prop} {w : World} (hgd : o.guard = Option.none) (s x : Operand)
    (ho : o.op = .call { callee := .builtin .append, args := #[s, x], argTypes := #[ts, ts] }) (hs : a.eval s = .slice none 0 0) (l : List (Tr α)) (ys : List (EV α)) (hyl : ys.length = l.length)
    (ad : Addr) (m c : Nat) (hm : l.length = m) (hx : a.eval x = .slice (some ad) m c) (hc : ∀ j u, (flat E.enc ys)[j]? = some u → w.cell? (ad.add j) = some u) (hy : ∀ (i : Nat) (t : Tr α) (y : EV α), l[i]? = some t → ys[i]? = some y → TreeP E A w t y)
    (hb : m ≤ 1000000)
    (h : ∀ v' w', OwnT E te A w' w.heap.size v' l → Below w.heap.size w w' → wpList Try.prog ops Q rest (a.put o.dst v') w') : wpList Try.prog ops Q (o :: rest) a w := by
  obtain ⟨i0, hi, hz0, hz1, hz2⟩ := info_parts hinf
  have hone : ∀ u ∈ flat E.enc ys, u.oneCell' = true := flat_one E.enc ys
  have hfit : (0 + m) * bytes ≤ 140737488355328 := Nat.le_trans (Nat.mul_le_mul (show 0 + m ≤ 1000000 by omega) hbb) (by omega)
  have hkl : (flat E.enc ys).length = m * (E.n + 1) := by rw [flat_length, hyl, hm]; rfl
  obtain ⟨v', w', hr, h2, h3, _⟩ := run_append_own (P := Try.prog) w w.heap.size ts o.type te i0 _ (E.n + 1) bytes ht hi hz0 hz1 hz2 hzs (Nat.succ_pos _) (.slice none 0 0) 0 [] (World.ownsRow_nil w w.heap.size te (E.n + 1)) ad m c (flat E.enc ys) hkl hc hone (by unfold maxLen; omega) hfit (Nat.le_refl _)
  have hbel := below_grown (World.ownsRow_nil w w.heap.size te (E.n + 1)) h3 (Nat.le_refl _) w (Below.refl _ _)
  rw [List.nil_append, Nat.zero_add] at h2
  have hlt : ∀ b, v'.ownBlock = some b → w.heap.size ≤ b := fun b e => by
    rcases h2.2 with ⟨e2, _⟩ | ⟨g', cap, cur, e2, hgb, _⟩
    · rw [e2] at e; cases e
    · rw [e2] at e; simp [Value.ownBlock] at e; omega
  refine wpList_plain hgd fun _ hK => ?_
  unfold Oper.wp execOp
  simp only [ho, resolve, invoke, builtin, Sem.run_bind, Sem.run_pure, Result.andThen_ok, List.map_toArray, List.map_cons, List.map_nil, hs, hx, hr]
  refine hK _ _ (h v' w' ⟨ys, hyl, ?_, fun i t y e1 e2 => ?_⟩ hbel)
  · unfold OwnE
    rw [hyl, hm]
    exact h2
  · have hp := (hy i t y e1 e2).inHeap
    refine hp.keep (fun a' u ha hc => ?_) (fun a' u ha hc => ?_) (fun b hb => ?_)
    · rw [hbel.cell ha.2]; exact hc
    · exact ⟨ha.1, fun e => by have := hlt _ e; omega⟩
    · exact ⟨hb.1, fun e => by have := hlt _ e; omega⟩
theorem lit_list {w : World} {g : Nat} {cs : Array Value} {T : TypeId} (hg : w.heap[g]? = some (.cells cs T (0, 0))) {L : List Value} (hcs : cs.toList = L) : ∀ j u, L[j]? = some u → w.cell? ((⟨g, 0, none⟩ : Addr).add j) = some u := by
  intro j u hj
  rw [← hcs, Array.getElem?_toList] at hj
  have : w.cell? ⟨g, j, none⟩ = cs[j]? := cell_of_row w g j cs T _ hg
  rw [← hj, ← this]
  cases j <;> simp [Addr.add]
end
theorem packB_mk (s : List UInt8) (e : Bool) : packB (mkS s) e = mkS (packL s e) := packB_eq (mkS s) e
theorem InC.cell {W : World} {a : Addr} {v : Value} (h : W.cell? a = some v) (u : InC (LaterC W)) : u.w.cell? a = some v := by
  rw [u.below.cell (block_lt_of_cell h)]; exact h

set_option maxHeartbeats 8000000 in
theorem ritem10_leaf (f : Nat) (p0 : Pr) (hz : p0.1.length ≤ 64) : RItemC (f + 1) [p0] := fun v w h => by
  have KC := Lib.hid (fun W (hb : Below w.heap.size w W) => rcommon_any v p0 [] W (RP.below h hb (Nat.le_refl _)) (by simp) (fun p hp => by simp only [List.mem_singleton] at hp; subst hp; omega))
  have KP := Lib.hid (fun W => rpack_any (mkS p0.1) true W (by rw [mk_size]; omega))
  rw [packB_mk] at KP
  rw [itemR_one]
  obtain ⟨p, c, rfl, z1, z2⟩ := RowE.shape encP h
  have HV := Lib.hid h
  have hx0 : [p0][0]? = some p0 := rfl
  simp only [List.length_singleton] at *
  generalize packL p0.1 true = pk at *
  generalize commonL [p0] = cm at *
  have R := Lib.hid (RowAt.new w #[.bool false, .string ⟨#[]⟩, .slice none 0 0] 98)
  have HB := Lib.hid ((Below.refl w.heap.size w).alloc (Nat.le_refl _) (.cells #[.bool false, .string ⟨#[]⟩, .slice none 0 0] 98))
  clear h hz
  go_enter Try.func50, Try.ntmps50
  go_upto_region 1 with (fail)
  generalize w.alloc (.cells #[.bool false, .string ⟨#[]⟩, .slice none 0 0] 98) = w1 at *
  go_upto_region 2 with (go_at_call 80; (with_reducible refine (KC.out w1 HB.out).mono ?_); rintro e w2 ⟨rfl, hb⟩; (replace R := Lib.hid (R.out.belowS hb); replace HB := Lib.hid (HB.out.trans (hb.mono HB.out.size)); clear hb); clear KC)
  have R4 := Lib.hid (RowAt.new w2 #[.bool true, .string ⟨#[]⟩, .slice none 0 0] 98)
  have HN : Hid (w.heap.size < w2.heap.size) := Lib.hid R.out.lt
  (replace R := Lib.hid (R.out.alloc (.cells #[.bool true, .string ⟨#[]⟩, .slice none 0 0] 98)); replace HB := Lib.hid (HB.out.alloc HB.out.size (.cells #[.bool true, .string ⟨#[]⟩, .slice none 0 0] 98)))
  go_upto_region 4 with (fail)
  generalize w2.alloc (.cells #[.bool true, .string ⟨#[]⟩, .slice none 0 0] 98) = w3 at *
  generalize w2.heap.size = k4 at *
  obtain ⟨a, rfl, d0, d1⟩ := RP.at (RP.below HV.out HB.out (Nat.le_refl _)) hx0
  rw [Nat.zero_mul, Addr.add_zero'] at d0 d1
  have e0 : ∀ u : InC (LaterC w3.drew), u.w.cell? a = some (.string (mkS p0.1)) := InC.cell (W := w3.drew) d0
  have e1 : ∀ u : InC (LaterC w3.drew), u.w.cell? ⟨a.block, a.off + 1, none⟩ = some (.string (mkS p0.2)) := InC.cell (W := w3.drew) d1
  have e2 : ∀ u : InC (LaterC w3.drew), u.w.cell? ⟨k4, 2, none⟩ = some (.slice none 0 0) := fun u => (R4.out.drew.inC u).cell 2
  (refine region_items [(false, 0), (false, 1), (false, 2), (false, 3), (false, 4), (false, 5), (false, 8), (false, 9), (false, 10), (false, 11), (false, 12), (true, 6), (false, 7), (true, 13)] 14 (LaterC w3.drew) mix ?hB ?hC ?_; case hB => kernel_rfl); (case hC => (exact Below.refl _ _)); ((with_reducible refine xi_read ?_); (refine ⟨_, rfl, ?_⟩); intro K hK; go_simp; (with_reducible refine hK _ ?_); clear hK K); ((with_reducible refine xi_read ?_); (refine ⟨_, rfl, ?_⟩); intro K hK; go_simp; (with_reducible refine hK _ ?_); clear hK K); ((with_reducible refine xi_read ?_); (refine ⟨_, rfl, ?_⟩); intro K hK; go_simp; (with_reducible refine hK _ ?_); clear hK K); ((with_reducible refine xi_read ?_); (refine ⟨_, rfl, ?_⟩); intro K hK; go_simp; (with_reducible refine hK _ ?_); clear hK K); ((with_reducible refine xi_read ?_); (refine ⟨_, rfl, ?_⟩); intro K hK; go_simp; (with_reducible refine hK _ ?_); clear hK K); ((with_reducible refine xi_read ?_); (refine ⟨_, rfl, ?_⟩); intro K hK; go_simp; (with_reducible refine hK _ ?_); clear hK K); ((with_reducible refine xi_read ?_); (refine ⟨_, rfl, ?_⟩); intro K hK; go_simp; (with_reducible refine hK _ ?_); clear hK K); ((with_reducible refine xi_read ?_); (refine ⟨_, rfl, ?_⟩); intro K hK; go_simp; (with_reducible refine hK _ ?_); clear hK K); ((with_reducible refine xi_read ?_); (refine ⟨_, rfl, ?_⟩); intro K hK; go_simp; (with_reducible refine hK _ ?_); clear hK K); ((with_reducible refine xi_read ?_); (refine ⟨_, rfl, ?_⟩); intro K hK; go_simp; (with_reducible refine hK _ ?_); clear hK K); ((with_reducible refine xi_read ?_); (refine ⟨_, rfl, ?_⟩); intro K hK; go_simp; (with_reducible refine hK _ ?_); clear hK K); ((with_reducible refine xi_eff ?_); (refine ⟨_, rfl, ?_⟩); intro K hK; unfold EX; go_simp; (go_at_call 93; (with_reducible refine (KP.out _).mono ?_); rintro e w4 ⟨rfl, hb4⟩; refine ⟨_, rfl, hb4, hK _ _ ?_⟩; clear hK K)); ((with_reducible refine xi_read ?_); (refine ⟨_, rfl, ?_⟩); intro K hK; go_simp; (with_reducible refine hK _ ?_); clear hK K); ((with_reducible refine xi_eff ?_); (refine ⟨_, rfl, ?_⟩); intro K hK; unfold EX; go_simp; (refine ⟨?hC, hK _ _ ?_⟩; (case hC => exact Below.alloc hb4 hb4.size _); clear hK K)); (with_reducible refine xi_nil ?_); (simp only [List.drop_succ_cons, List.drop_zero])
  clear e0 e1 e2 d0 d1 KP HV
  have HBD := (Below.refl w3.heap.size w3).drew
  have hb := HBD.trans (hb4.mono HBD.size)
  have RG := Lib.hid (RowAt.new w4 #[.bool false, .string (mkS pk), .slice none 0 0, .bool false, .string (mkS p0.2), .slice none 0 0] 98)
  (replace R := Lib.hid (R.out.belowS hb); replace R4 := Lib.hid (R4.out.belowS hb); replace HB := Lib.hid (HB.out.trans (hb.mono HB.out.size)); clear hb)
  clear hb4 HBD
  (replace R := Lib.hid (R.out.alloc (.cells #[.bool false, .string (mkS pk), .slice none 0 0, .bool false, .string (mkS p0.2), .slice none 0 0] 98)); replace R4 := Lib.hid (R4.out.alloc (.cells #[.bool false, .string (mkS pk), .slice none 0 0, .bool false, .string (mkS p0.2), .slice none 0 0] 98)); replace HB := Lib.hid (HB.out.alloc HB.out.size (.cells #[.bool false, .string (mkS pk), .slice none 0 0, .bool false, .string (mkS p0.2), .slice none 0 0] 98)))
  generalize w4.alloc (.cells #[.bool false, .string (mkS pk), .slice none 0 0, .bool false, .string (mkS p0.2), .slice none 0 0] 98) = w5 at *
  generalize w4.heap.size = kg at *
  have HLN : Hid ((itTs [strI pk, strI p0.2]).length = 2) := Lib.hid rfl
  have HK4 : Hid (k4 < w5.heap.size) := Lib.hid R4.out.lt
  go_wp2_with (at_builtin; refine wpList_append_trees0 (E := encIt) (A := fun b => k4 < b) Try.underlying93 info_it rfl (by omega) rfl _ _ rfl rfl (itTs [strI pk, strI p0.2]) [((false, pk), none, 0, 0), ((false, p0.2), none, 0, 0)] rfl ⟨kg, 0, none⟩ 2 2 rfl rfl (lit_list RG.out rfl) (fun i t y h1 h2 => by
    match i, h1, h2 with
    | 0, h1, h2 => cases h1; cases h2; exact .leaf _ _ _ (Nat.zero_le _) (fun _ => rfl)
    | 1, h1, h2 => cases h1; cases h2; exact .leaf _ _ _ (Nat.zero_le _) (fun _ => rfl)
    | i + 2, h1, h2 => cases h2) (by omega) ?_)
  intro v' w6 ho hb
  obtain ⟨po, co, rfl, _, _⟩ := OwnT.shape ho
  rw [HLN.out]
  rw [HLN.out] at ho
  have O := Lib.hid ho
  (replace R := Lib.hid (R.out.belowS hb); replace R4 := Lib.hid (R4.out.belowS hb); replace HB := Lib.hid (HB.out.trans (hb.mono HB.out.size)); clear hb)
  clear ho RG
  obtain ⟨q0, q1, q2, qf0, qf1, qf2⟩ := R4.out.c3
  go_upto_region 5 with (fail)
  have R5 := Lib.hid (R4.out.set 2 (.slice po 2 co) (cs' := #[.bool true, .string ⟨#[]⟩, .slice po 2 co]) rfl)
  replace O := Lib.hid (O.out.setLow ⟨k4, 2, none⟩ (.slice po 2 co) HK4.out (fun b hb => by simp only; omega))
  have R1 := Lib.hid (R.out.other ⟨k4, 2, none⟩ (.slice po 2 co) (by have := HN.out; simp only; omega))
  replace HB := Lib.hid (HB.out.setCell (p := ⟨k4, 2, none⟩) (by have := HN.out; simp only; omega) (.slice po 2 co))
  clear q0 q1 q2 qf0 qf1 qf2 R R4
  generalize w6.setCell ⟨k4, 2, none⟩ (.slice po 2 co) = w7 at *
  obtain ⟨q0, q1, q2, qf0, qf1, qf2⟩ := R5.out.c3
  obtain ⟨x0, x1, x2, xf0, xf1, xf2⟩ := R1.out.c3
  go_wp2
  obtain ⟨r, bb⟩ := box3 R1.out HB.out (Nat.le_refl _) (.bool true) (.string ⟨#[]⟩) (.slice po 2 co)
  obtain ⟨e0, e1, e2, _⟩ := r.c3
  refine bodyPost_ret (v := .agg #[.bool true, .string ⟨#[]⟩, .slice po 2 co]) (by simp [results, Try.results50, go_sem, e0, e1, e2]) rfl ?_
  have HI := O.out.row (fun b hb => by have := HK4.out; omega)
  exact ⟨_, rfl, true, [], po, 2, co, [strI pk, strI p0.2], rfl, rfl, bb, HI.keep (fun a v ha hc => by rw [World.cell?_setCell_other, World.cell?_setCell_other, World.cell?_setCell_other]; exact hc; all_goals (intro e; subst e; have := HN.out; simp only at ha; omega)) (fun b hb => by have := HN.out; omega)⟩
end Go.Proofs.Ytefmlbckbhlgdaa
namespace Go.Proofs.Ytefmlbckbhlgdaa
open Go.RowKit Go.Shelf
set_option maxRecDepth 100000
set_option maxHeartbeats 8000000 in
theorem ritem10_joint (f : Nat) (p0 q0 : Pr) (r0 : List Pr) (hpos : 0 < commonL (p0 :: q0 :: r0)) (hz : ∀ p ∈ p0 :: q0 :: r0, p.1.length ≤ 64) (hl : (p0 :: q0 :: r0).length ≤ 1000)
    (hT : RToldC f (cutK (commonL (p0 :: q0 :: r0)) (p0 :: q0 :: r0))) : RItemC (f + 1) (p0 :: q0 :: r0) := fun v w h => by
  have KC := Lib.hid (fun W (hb : Below w.heap.size w W) => rcommon_any v p0 (q0 :: r0) W (RP.below h hb (Nat.le_refl _)) (by omega) (fun p hp => by have := hz p hp; omega))
  rw [itemR_joint hpos]
  have hk0 : commonL (p0 :: q0 :: r0) ≤ p0.1.length := commonL_le.1
  have hk1 : p0.1.length ≤ 64 := hz p0 List.mem_cons_self
  have ec : cutP 16 (commonL (p0 :: q0 :: r0)) (p0 :: q0 :: r0) = cutK (commonL (p0 :: q0 :: r0)) (p0 :: q0 :: r0) := by unfold cutP; rw [selC_all]
  have KT := Lib.hid (fun W (hb : Below w.heap.size w W) => rcut_any 16 (commonL (p0 :: q0 :: r0)) v (p0 :: q0 :: r0) W (RP.below h hb (Nat.le_refl _)) (by omega) (by omega) (by omega) (fun p hp _ => (common_take p hp).2) (fun p hp => by have := hz p hp; omega))
  rw [ec, show ((16 : Nat) : Int) = 16 from rfl] at KT
  have KP := Lib.hid (fun W => rpack_any (mkS (p0.1.take (commonL (p0 :: q0 :: r0)))) false W (by rw [mk_size, List.length_take]; omega))
  rw [packB_mk] at KP
  replace hT := Lib.hid hT
  unfold RToldC at hT
  obtain ⟨p, c, rfl, z1, z2⟩ := RowE.shape encP h
  have HV := Lib.hid h
  have hx0 : (p0 :: q0 :: r0)[0]? = some p0 := rfl
  have hg1 : ¬ ((p0 :: q0 :: r0).length : Int) = 1 := by simp only [List.length_cons]; omega
  have hg2 : 0 < (p0 :: q0 :: r0).length := by simp
  generalize toldW (itemR f) (cutK (commonL (p0 :: q0 :: r0)) (p0 :: q0 :: r0)) = T at *
  generalize cutK (commonL (p0 :: q0 :: r0)) (p0 :: q0 :: r0) = l2 at *
  generalize hk : commonL (p0 :: q0 :: r0) = k at *
  generalize packL (p0.1.take k) false = pk at *
  have hsz := mk_size p0.1
  have htk := mkS_take p0.1 k
  have hkk : (0 : Int) < k := by omega
  generalize p0 :: q0 :: r0 = l at *
  generalize hln : l.length = ln at *
  clear h hz ec hk hln hl hpos
  have R := Lib.hid (RowAt.new w #[.bool false, .string ⟨#[]⟩, .slice none 0 0] 98)
  have HB := Lib.hid ((Below.refl w.heap.size w).alloc (Nat.le_refl _) (.cells #[.bool false, .string ⟨#[]⟩, .slice none 0 0] 98))
  go_enter Try.func50, Try.ntmps50
  go_upto_region 1 with (fail)
  generalize w.alloc (.cells #[.bool false, .string ⟨#[]⟩, .slice none 0 0] 98) = w1 at *
  go_upto_region 2 with (go_at_call 80; (with_reducible refine (KC.out w1 HB.out).mono ?_); rintro e w2 ⟨rfl, hb⟩; (replace R := Lib.hid (R.out.belowS hb); replace HB := Lib.hid (HB.out.trans (hb.mono HB.out.size)); clear hb); clear KC)
  have R4 := Lib.hid (RowAt.new w2 #[.bool true, .string ⟨#[]⟩, .slice none 0 0] 98)
  have HN : Hid (w.heap.size < w2.heap.size) := Lib.hid R.out.lt
  (replace R := Lib.hid (R.out.alloc (.cells #[.bool true, .string ⟨#[]⟩, .slice none 0 0] 98)); replace HB := Lib.hid (HB.out.alloc HB.out.size (.cells #[.bool true, .string ⟨#[]⟩, .slice none 0 0] 98)))
  go_upto_region 7 with (fail)
  generalize w2.alloc (.cells #[.bool true, .string ⟨#[]⟩, .slice none 0 0] 98) = w3 at *
  generalize w2.heap.size = k4 at *
  obtain ⟨a, rfl, d0, -⟩ := RP.at (RP.below HV.out HB.out (Nat.le_refl _)) hx0
  rw [Nat.zero_mul, Addr.add_zero'] at d0
  have e0 : ∀ u : InC (LaterC w3.drew), u.w.cell? a = some (.string (mkS p0.1)) := InC.cell (W := w3.drew) d0
  have e2 : ∀ u : InC (LaterC w3.drew), u.w.cell? ⟨k4, 2, none⟩ = some (.slice none 0 0) := fun u => (R4.out.drew.inC u).cell 2
  have HBC := Lib.hid HB.out.drew
  (refine region_items [(false, 0), (false, 1), (false, 2), (false, 3), (false, 4), (false, 5), (false, 6), (false, 7), (false, 10), (false, 11), (true, 8), (false, 9), (true, 12), (true, 13), (true, 14)] 15 (LaterC w3.drew) mix ?hB ?hC ?_; case hB => kernel_rfl); (case hC => (exact Below.refl _ _)); ((with_reducible refine xi_read ?_); (refine ⟨_, rfl, ?_⟩); intro K hK; go_simp; (with_reducible refine hK _ ?_); clear hK K); ((with_reducible refine xi_read ?_); (refine ⟨_, rfl, ?_⟩); intro K hK; go_simp; (with_reducible refine hK _ ?_); clear hK K); ((with_reducible refine xi_read ?_); (refine ⟨_, rfl, ?_⟩); intro K hK; go_simp; (with_reducible refine hK _ ?_); clear hK K); ((with_reducible refine xi_read ?_); (refine ⟨_, rfl, ?_⟩); intro K hK; go_simp; (with_reducible refine hK _ ?_); clear hK K); ((with_reducible refine xi_read ?_); (refine ⟨_, rfl, ?_⟩); intro K hK; go_simp; (with_reducible refine hK _ ?_); clear hK K); ((with_reducible refine xi_read ?_); (refine ⟨_, rfl, ?_⟩); intro K hK; go_simp; (with_reducible refine hK _ ?_); clear hK K); ((with_reducible refine xi_read ?_); (refine ⟨_, rfl, ?_⟩); intro K hK; go_simp; (with_reducible refine hK _ ?_); clear hK K); ((with_reducible refine xi_read ?_); (refine ⟨_, rfl, ?_⟩); intro K hK; go_simp; (with_reducible refine hK _ ?_); clear hK K); ((with_reducible refine xi_read ?_); (refine ⟨_, rfl, ?_⟩); intro K hK; go_simp; (with_reducible refine hK _ ?_); clear hK K); ((with_reducible refine xi_read ?_); (refine ⟨_, rfl, ?_⟩); intro K hK; go_simp; (with_reducible refine hK _ ?_); clear hK K); ((with_reducible refine xi_eff ?_); (refine ⟨_, rfl, ?_⟩); intro K hK; unfold EX; go_simp; (go_at_call 93; (with_reducible refine (KP.out _).mono ?_); rintro e w4 ⟨rfl, hb4⟩; refine ⟨_, rfl, hb4, hK _ _ ?_⟩; clear hK K)); ((with_reducible refine xi_read ?_); (refine ⟨_, rfl, ?_⟩); intro K hK; go_simp; (with_reducible refine hK _ ?_); clear hK K); ((with_reducible refine xi_eff ?_); (refine ⟨_, rfl, ?_⟩); intro K hK; unfold EX; go_simp; (go_at_call 81; (with_reducible refine (KT.out _ (HBC.out.trans (hb4.mono HBC.out.size))).mono ?_); rintro e w5 ⟨v5, rfl, hr5, hb5⟩; have HB5 := hb4.trans (hb5.mono hb4.size); refine ⟨_, rfl, HB5, hK _ _ ?_⟩; clear hK K)); ((with_reducible refine xi_eff ?_); (refine ⟨_, rfl, ?_⟩); intro K hK; unfold EX; go_simp; (go_at_call 94; (with_reducible refine (hT.out _ _ hr5).mono ?_); rintro e w6 ⟨u6, rfl, lb, b, q, n, c2, ks, rfl, hx, hb6, hrow⟩; have HB6 := HB5.trans (hb6.mono HB5.size); refine ⟨_, rfl, HB6, hK _ _ ?_⟩; clear hK K)); ((with_reducible refine xi_eff ?_); (refine ⟨_, rfl, ?_⟩); intro K hK; unfold EX; go_simp; (refine ⟨?hC, hK _ _ ?_⟩; (case hC => exact Below.alloc HB6 HB6.size _); clear hK K)); (with_reducible refine xi_nil ?_); (simp only [List.drop_succ_cons, List.drop_zero])
  clear e0 e2 d0 KP HV HBC KT hT
  have HBD := (Below.refl w3.heap.size w3).drew
  have hb := HBD.trans (HB6.mono HBD.size)
  have RG := Lib.hid (RowAt.new w6 #[.bool false, .string (mkS pk), .slice none 0 0, .bool lb, .string (mkS b), .slice q n c2] 98)
  have HRW := Lib.hid ((hrow.below (bel1 w6 (.cells #[.bool false, .string (mkS pk), .slice none 0 0, .bool lb, .string (mkS b), .slice q n c2] 98)) (Nat.le_refl _)).weaken (A' := fun b => k4 < b) (fun b hb' => by have := HB5.size; have := HBD.size; have := R4.out.lt; omega))
  (replace R := Lib.hid (R.out.belowS hb); replace R4 := Lib.hid (R4.out.belowS hb); replace HB := Lib.hid (HB.out.trans (hb.mono HB.out.size)); clear hb)
  clear hb4 hb5 hb6 HB5 HB6 HBD hrow hr5
  (replace R := Lib.hid (R.out.alloc (.cells #[.bool false, .string (mkS pk), .slice none 0 0, .bool lb, .string (mkS b), .slice q n c2] 98)); replace R4 := Lib.hid (R4.out.alloc (.cells #[.bool false, .string (mkS pk), .slice none 0 0, .bool lb, .string (mkS b), .slice q n c2] 98)); replace HB := Lib.hid (HB.out.alloc HB.out.size (.cells #[.bool false, .string (mkS pk), .slice none 0 0, .bool lb, .string (mkS b), .slice q n c2] 98)))
  generalize w6.alloc (.cells #[.bool false, .string (mkS pk), .slice none 0 0, .bool lb, .string (mkS b), .slice q n c2] 98) = w7 at *
  generalize w6.heap.size = kg at *
  have HLN : Hid ((itTs [strI pk, It.mk lb b ks]).length = 2) := Lib.hid rfl
  have HK4 : Hid (k4 < w7.heap.size) := Lib.hid R4.out.lt
  subst hx
  go_wp2_with (at_builtin; refine wpList_append_trees0 (E := encIt) (A := fun b => k4 < b) Try.underlying93 info_it rfl (by omega) rfl _ _ rfl rfl (itTs [strI pk, It.mk lb b ks]) [((false, pk), none, 0, 0), ((lb, b), q, n, c2)] rfl ⟨kg, 0, none⟩ 2 2 rfl rfl (lit_list RG.out rfl) (fun i t y h1 h2 => by
    match i, h1, h2 with
    | 0, h1, h2 => cases h1; cases h2; exact .leaf _ _ _ (Nat.zero_le _) (fun _ => rfl)
    | 1, h1, h2 => cases h1; cases h2; exact RowT.node (lb, b) (s := (q, n, c2)) HRW.out
    | i + 2, h1, h2 => cases h2) (by omega) ?_)
  intro v' w8 ho hb
  obtain ⟨po, co, rfl, _, _⟩ := OwnT.shape ho
  rw [HLN.out]
  rw [HLN.out] at ho
  have O := Lib.hid ho
  (replace R := Lib.hid (R.out.belowS hb); replace R4 := Lib.hid (R4.out.belowS hb); replace HB := Lib.hid (HB.out.trans (hb.mono HB.out.size)); clear hb)
  clear ho RG HRW
  obtain ⟨q0, q1, q2, qf0, qf1, qf2⟩ := R4.out.c3
  go_upto_region 8 with (fail)
  have R5 := Lib.hid (R4.out.set 2 (.slice po 2 co) (cs' := #[.bool true, .string ⟨#[]⟩, .slice po 2 co]) rfl)
  replace O := Lib.hid (O.out.setLow ⟨k4, 2, none⟩ (.slice po 2 co) HK4.out (fun b hb => by simp only; omega))
  have R1 := Lib.hid (R.out.other ⟨k4, 2, none⟩ (.slice po 2 co) (by have := HN.out; simp only; omega))
  replace HB := Lib.hid (HB.out.setCell (p := ⟨k4, 2, none⟩) (by have := HN.out; simp only; omega) (.slice po 2 co))
  clear q0 q1 q2 qf0 qf1 qf2 R R4
  generalize w8.setCell ⟨k4, 2, none⟩ (.slice po 2 co) = w9 at *
  obtain ⟨q0, q1, q2, qf0, qf1, qf2⟩ := R5.out.c3
  obtain ⟨x0, x1, x2, xf0, xf1, xf2⟩ := R1.out.c3
  go_wp2
  obtain ⟨r, bb⟩ := box3 R1.out HB.out (Nat.le_refl _) (.bool true) (.string ⟨#[]⟩) (.slice po 2 co)
  obtain ⟨e0, e1, e2, _⟩ := r.c3
  refine bodyPost_ret (v := .agg #[.bool true, .string ⟨#[]⟩, .slice po 2 co]) (by simp [results, Try.results50, go_sem, e0, e1, e2]) rfl ?_
  have HI := O.out.row (fun b hb => by have := HK4.out; omega)
  exact ⟨_, rfl, true, [], po, 2, co, [strI pk, It.mk lb b ks], rfl, rfl, bb, HI.keep (fun a v ha hc => by rw [World.cell?_setCell_other, World.cell?_setCell_other, World.cell?_setCell_other]; exact hc; all_goals (intro e; subst e; have := HN.out; simp only at ha; omega)) (fun b hb => by have := HN.out; omega)⟩
end Go.Proofs.Ytefmlbckbhlgdaa
namespace Go.Proofs.Ytefmlbckbhlgdaa
open Go.RowKit Go.Shelf
set_option maxRecDepth 100000
set_option maxHeartbeats 8000000 in
theorem ritem10_branch (f : Nat) (p0 q0 : Pr) (r0 : List Pr) (hpos : ¬ 0 < commonL (p0 :: q0 :: r0)) (hz : ∀ p ∈ p0 :: q0 :: r0, p.1.length ≤ 64) (hl : (p0 :: q0 :: r0).length ≤ 1000)
    (hT : ∀ c, c < 16 → RToldC f (cutC c (p0 :: q0 :: r0))) : RItemC (f + 1) (p0 :: q0 :: r0) := fun v w h => by
  have KC := Lib.hid (fun W (hb : Below w.heap.size w W) => rcommon_any v p0 (q0 :: r0) W (RP.below h hb (Nat.le_refl _)) (by omega) (fun p hp => by have := hz p hp; omega))
  rw [itemR_branch hpos]
  have hc0 : commonL (p0 :: q0 :: r0) = 0 := by omega
  rw [hc0] at KC
  have KG := Lib.hid (fun W (hb : Below w.heap.size w W) => rget_any [] v (p0 :: q0 :: r0) W (RP.below h hb (Nat.le_refl _)))
  have KT := Lib.hid (fun (c : Nat) (hc : c < 16) W (hb : Below w.heap.size w W) => show Calls Try.prog 81 #[v, .int .i64 c, .int .i64 1] W fun e w' => ∃ v', e = .returned v' ∧ RP w' v' (cutC c (p0 :: q0 :: r0)) ∧ Below W.heap.size W w' by
    have := rcut_any c 1 v (p0 :: q0 :: r0) W (RP.below h hb (Nat.le_refl _)) (by omega) (by omega) (by omega) (fun p hp hs => by
      unfold selC at hs
      rw [decide_eq_false (by omega), Bool.false_or] at hs
      obtain ⟨x, r, e, _⟩ := hasC_some hs
      rw [e]; simp) (fun p hp => by have := hz p hp; omega)
    have e : cutP c 1 (p0 :: q0 :: r0) = cutC c (p0 :: q0 :: r0) := by unfold cutP cutC; rw [selC_some (by omega)]
    rw [e] at this
    exact this)
  rw [getL_nil] at KG
  replace KG : Hid (∀ W, Below w.heap.size w W → Calls Try.prog 34 #[v, .string ⟨#[]⟩] W fun e w' => e = .returned (.tuple #[.string (mkS (valE (p0 :: q0 :: r0))), .bool (getL [] (p0 :: q0 :: r0)).isSome]) ∧ Below W.heap.size W w') := KG
  replace hT := Lib.hid hT
  unfold RToldC at hT
  obtain ⟨p, c, rfl, z1, z2⟩ := RowE.shape encP h
  have hg1 : (((p0 :: q0 :: r0).length : Int) == 1) = false := beq_eq_false_iff_ne.2 (by simp only [List.length_cons]; omega)
  generalize hXS : (List.range 16).map (fun c => toldW (itemR f) (cutC c (p0 :: q0 :: r0))) = xs at *
  have HXL : Hid (xs.length = 16) := Lib.hid (by rw [← hXS]; simp)
  have HXG : Hid (∀ i, i < 16 → xs[i]? = some (toldW (itemR f) (cutC i (p0 :: q0 :: r0)))) := Lib.hid (fun i hi => by rw [← hXS, List.getElem?_map, List.getElem?_range hi]; rfl)
  generalize valE (p0 :: q0 :: r0) = val at *
  generalize (getL [] (p0 :: q0 :: r0)).isSome = has at *
  generalize p0 :: q0 :: r0 = l at *
  generalize hln : l.length = ln at *
  clear h hz hln hl hpos hc0 hXS
  have R := Lib.hid (RowAt.new w #[.bool false, .string ⟨#[]⟩, .slice none 0 0] 98)
  have HB := Lib.hid ((Below.refl w.heap.size w).alloc (Nat.le_refl _) (.cells #[.bool false, .string ⟨#[]⟩, .slice none 0 0] 98))
  go_enter Try.func50, Try.ntmps50
  go_upto_region 1 with (fail)
  generalize w.alloc (.cells #[.bool false, .string ⟨#[]⟩, .slice none 0 0] 98) = w1 at *
  go_upto_region 2 with (go_at_call 80; (with_reducible refine (KC.out w1 HB.out).mono ?_); rintro e w2 ⟨rfl, hb⟩; (replace R := Lib.hid (R.out.belowS hb); replace HB := Lib.hid (HB.out.trans (hb.mono HB.out.size)); clear hb); clear KC)
  have R4 := Lib.hid (RowAt.new w2 #[.bool true, .string ⟨#[]⟩, .slice none 0 0] 98)
  have HN : Hid (w.heap.size < w2.heap.size) := Lib.hid R.out.lt
  (replace R := Lib.hid (R.out.alloc (.cells #[.bool true, .string ⟨#[]⟩, .slice none 0 0] 98)); replace HB := Lib.hid (HB.out.alloc HB.out.size (.cells #[.bool true, .string ⟨#[]⟩, .slice none 0 0] 98)))
  go_upto_region 10 with (fail)
  have O0 : Hid (OwnT encIt 98 (fun b => w2.heap.size < b) (w2.alloc (.cells #[.bool true, .string ⟨#[]⟩, .slice none 0 0] 98)) (w2.heap.size + 1) (.slice none 0 0) (itTs (xs.take 0))) := Lib.hid (OwnT.nil _ _)
  generalize w2.alloc (.cells #[.bool true, .string ⟨#[]⟩, .slice none 0 0] 98) = w3 at *
  generalize w2.heap.size = k4 at *
  go_loopw [5] (fun s5 wr => ∃ (i : Nat) (po : Option Addr) (co : Nat), i ≤ 16 ∧ s5 = .int .i64 i ∧ Hid (RowAt wr k4 #[.bool true, .string ⟨#[]⟩, .slice po i co] 98) ∧ Hid (OwnT encIt 98 (fun b => k4 < b) wr (k4 + 1) (.slice po i co) (itTs (xs.take i))) ∧ Hid (RowAt wr w.heap.size #[.bool false, .string ⟨#[]⟩, .slice none 0 0] 98) ∧ Hid (Below w.heap.size w wr)) (fun s _ => 16 - (intOf s).toNat)
  case atStart => exact ⟨0, none, 0, Nat.zero_le _, rfl, R4, O0, R, HB⟩
  case round =>
    clear R4 O0 R HB
    obtain ⟨i, po, co, hi, rfl, h6, ho, h4, hb⟩ := hrel
    have R4 := Lib.hid h6.out
    have O := Lib.hid ho.out
    have R := Lib.hid h4.out
    have HB := Lib.hid hb.out
    clear h6 ho h4 hb
    by_cases hlt : i < 16
    · have HX := Lib.hid (HXG.out i hlt)
      have KT2 := Lib.hid (KT.out i hlt)
      have hT2 := Lib.hid (hT.out i hlt)
      generalize toldW (itemR f) (cutC i l) = T at *
      generalize cutC i l = l2 at *
      go_upto_region 12 with (fail)
      have e2 : ∀ u : InC (LaterC wr.drew), u.w.cell? ⟨k4, 2, none⟩ = some (.slice po i co) := fun u => (R4.out.drew.inC u).cell 2
      have HBC := Lib.hid HB.out.drew
      (refine region_items [(false, 0), (false, 1), (false, 2), (false, 3), (true, 4), (true, 5), (true, 6)] 7 (LaterC wr.drew) mix ?hB ?hC ?_; case hB => kernel_rfl); (case hC => (exact Below.refl _ _)); ((with_reducible refine xi_read ?_); (refine ⟨_, rfl, ?_⟩); intro K hK; go_simp; (with_reducible refine hK _ ?_); clear hK K); ((with_reducible refine xi_read ?_); (refine ⟨_, rfl, ?_⟩); intro K hK; go_simp; (with_reducible refine hK _ ?_); clear hK K); ((with_reducible refine xi_read ?_); (refine ⟨_, rfl, ?_⟩); intro K hK; go_simp; (with_reducible refine hK _ ?_); clear hK K); ((with_reducible refine xi_read ?_); (refine ⟨_, rfl, ?_⟩); intro K hK; go_simp; (with_reducible refine hK _ ?_); clear hK K); ((with_reducible refine xi_eff ?_); (refine ⟨_, rfl, ?_⟩); intro K hK; unfold EX; go_simp; (go_at_call 81; (with_reducible refine (KT2.out _ HBC.out).mono ?_); rintro e w5 ⟨v5, rfl, hr5, hb5⟩; refine ⟨_, rfl, hb5, hK _ _ ?_⟩; clear hK K)); ((with_reducible refine xi_eff ?_); (refine ⟨_, rfl, ?_⟩); intro K hK; unfold EX; go_simp; (go_at_call 94; (with_reducible refine (hT2.out _ _ hr5).mono ?_); rintro e w6 ⟨u6, rfl, lb, b, q, n, c2, ks, rfl, hx, hb6, hrow⟩; have HB6 := hb5.trans (hb6.mono hb5.size); refine ⟨_, rfl, HB6, hK _ _ ?_⟩; clear hK K)); ((with_reducible refine xi_eff ?_); (refine ⟨_, rfl, ?_⟩); intro K hK; unfold EX; go_simp; (refine ⟨?hC, hK _ _ ?_⟩; (case hC => exact Below.alloc HB6 HB6.size _); clear hK K)); (with_reducible refine xi_nil ?_); (simp only [List.drop_succ_cons, List.drop_zero])
      have HBD := (Below.refl wr.heap.size wr).drew
      have hb := HBD.trans (HB6.mono HBD.size)
      have HS5 : wr.heap.size ≤ (Later.of hb5).w.heap.size := by have := hb5.size; have := HBD.size; exact Nat.le_trans HBD.size hb5.size
      replace HS5 : wr.heap.size ≤ _ := HS5
      have HK4 : Hid (k4 < wr.heap.size) := Lib.hid R4.out.lt
      have HY := Lib.hid ((OwnT.fresh (t := itT (.mk lb b ks)) (s := (q, n, c2)) O.out HS5 (fun b hb => by have := HK4.out; simp only [Later.of, Later.w] at HS5 hb; omega) hrow).move (bel1 w6 (.cells #[.bool lb, .string (mkS b), .slice q n c2] 98)) (Nat.le_refl _))
      clear hrow hr5 hb5 hb6 HB6 HBD HS5 e2 HBC
      subst hx
      have HTK : Hid (itTs (xs.take i) ++ [itT (.mk lb b ks)] = itTs (xs.take (i + 1))) := Lib.hid (by rw [List.take_add_one, HX.out, itTs_map, itTs_map]; simp)
      have HTL : Hid ((itTs (xs.take i)).length = i) := Lib.hid (by rw [itTs_map]; simp; have := HXL.out; omega)
      (replace R := Lib.hid (R.out.belowS hb); replace R4 := Lib.hid (R4.out.belowS hb); replace O := Lib.hid (O.out.below hb (Nat.le_refl _)); replace HB := Lib.hid (HB.out.trans (hb.mono HB.out.size)); clear hb)
      have R11 := Lib.hid (RowAt.new w6 #[.bool lb, .string (mkS b), .slice q n c2] 98)
      replace O := Lib.hid (O.out.below (bel1 w6 (.cells #[.bool lb, .string (mkS b), .slice q n c2] 98)) (Nat.le_refl _))
      have HSZ : Hid (k4 + 1 ≤ (w6.alloc (.cells #[.bool lb, .string (mkS b), .slice q n c2] 98)).heap.size) := Lib.hid (by have := R4.out.lt; simp; omega)
      (replace R := Lib.hid (R.out.alloc (.cells #[.bool lb, .string (mkS b), .slice q n c2] 98)); replace R4 := Lib.hid (R4.out.alloc (.cells #[.bool lb, .string (mkS b), .slice q n c2] 98)); replace HB := Lib.hid (HB.out.alloc HB.out.size (.cells #[.bool lb, .string (mkS b), .slice q n c2] 98)))
      generalize w6.alloc (.cells #[.bool lb, .string (mkS b), .slice q n c2] 98) = w7 at *
      generalize w6.heap.size = k10 at *
      go_wp2_with (at_builtin; refine wpList_append_tree (E := encIt) (A := fun b => k4 < b) Try.underlying93 info_it rfl (by omega) rfl _ _ rfl (k4 + 1) _ (itTs (xs.take i)) rfl O.out ⟨k10, 0, none⟩ (itT (.mk lb b ks)) ((lb, b), q, n, c2) rfl (lit_cells R11.out rfl) HY.out (by have := HTL.out; omega) HSZ.out ?_)
      intro v' w' ho hg hbb hz
      obtain ⟨po', co', rfl, _, _⟩ := OwnT.shape ho
      have HNN : (itTs (xs.take i) ++ [itT (.mk lb b ks)]).length = i + 1 := by rw [List.length_append, HTL.out]; rfl
      rw [HNN]
      rw [HNN, HTK.out] at ho
      have hbk := hbb _ (Below.refl _ _)
      replace R4 := Lib.hid (R4.out.below hbk (Nat.lt_succ_self _))
      replace R := Lib.hid (R.out.below hbk (by have := HN.out; omega))
      replace HB := Lib.hid (HB.out.trans (hbk.mono (by have := HN.out; omega)))
      replace O := Lib.hid ho
      clear ho hg hbb hz hbk HNN HY R11 HSZ
      have q := R4.out.c3
      obtain ⟨q0, q1, q2, qf0, qf1, qf2⟩ := q
      replace R4 := Lib.hid (R4.out.set 2 (.slice po' (i + 1) co') (cs' := #[.bool true, .string ⟨#[]⟩, .slice po' (i + 1) co']) rfl)
      replace O := Lib.hid (O.out.setLow ⟨k4, 2, none⟩ (.slice po' (i + 1) co') (Nat.lt_succ_self _) (fun b hb => by simp only; omega))
      replace R := Lib.hid (R.out.other ⟨k4, 2, none⟩ (.slice po' (i + 1) co') (by have := HN.out; simp only; omega))
      replace HB := Lib.hid (HB.out.setCell (p := ⟨k4, 2, none⟩) (by have := HN.out; simp only; omega) (.slice po' (i + 1) co'))
      go_wp2
      exact ⟨⟨i + 1, po', co', by omega, by simp, R4, O, R, HB⟩, by simp [intOf]; omega⟩
    · obtain rfl : i = 16 := by omega
      have HSTOP := hlt
      clear KT hT HXG
      have HTL : Hid ((itTs (xs.take 16)).length = 16) := Lib.hid (by rw [itTs_map]; simp; have := HXL.out; omega)
      have HTK : Hid (itTs (xs.take 16) ++ [itT (strI val)] = itTs (xs ++ [strI val])) := Lib.hid (by rw [List.take_of_length_le (by have := HXL.out; omega), itTs_map, itTs_map, List.map_append]; rfl)
      go_upto_region 14 with (go_at_call 34; (with_reducible refine (KG.out _ HB.out).mono ?_); rintro e w5 ⟨rfl, hb⟩; (replace R := Lib.hid (R.out.belowS hb); replace R4 := Lib.hid (R4.out.belowS hb); replace O := Lib.hid (O.out.below hb (Nat.le_refl _)); replace HB := Lib.hid (HB.out.trans (hb.mono HB.out.size)); clear hb); clear KG)
      obtain ⟨y0, y1, y2, yf0, yf1, yf2⟩ := R4.out.c3
      have R11 := Lib.hid (RowAt.new w5 #[.bool false, .string (mkS val), .slice none 0 0] 98)
      replace O := Lib.hid (O.out.below (bel1 w5 (.cells #[.bool false, .string (mkS val), .slice none 0 0] 98)) (Nat.le_refl _))
      have HSZ : Hid (k4 + 1 ≤ (w5.alloc (.cells #[.bool false, .string (mkS val), .slice none 0 0] 98)).heap.size) := Lib.hid (by have := R4.out.lt; simp; omega)
      (replace R := Lib.hid (R.out.alloc (.cells #[.bool false, .string (mkS val), .slice none 0 0] 98)); replace R4 := Lib.hid (R4.out.alloc (.cells #[.bool false, .string (mkS val), .slice none 0 0] 98)); replace HB := Lib.hid (HB.out.alloc HB.out.size (.cells #[.bool false, .string (mkS val), .slice none 0 0] 98)))
      go_wp2_with (at_builtin; refine wpList_append_tree (E := encIt) (A := fun b => k4 < b) Try.underlying93 info_it rfl (by omega) rfl _ _ rfl (k4 + 1) _ (itTs (xs.take 16)) rfl O.out ⟨w5.heap.size, 0, none⟩ (itT (strI val)) ((false, val), none, 0, 0) rfl (lit_cells R11.out rfl) (.leaf _ _ _ (Nat.zero_le _) (fun _ => rfl)) (by have := HTL.out; omega) HSZ.out ?_)
      intro v' w' ho hg hbb hz
      obtain ⟨po', co', rfl, _, _⟩ := OwnT.shape ho
      have HNN : (itTs (xs.take 16) ++ [itT (strI val)]).length = 17 := by rw [List.length_append, HTL.out]; rfl
      rw [HNN]
      rw [HNN, HTK.out] at ho
      have hbk := hbb _ (Below.refl _ _)
      replace R4 := Lib.hid (R4.out.below hbk (Nat.lt_succ_self _))
      replace R := Lib.hid (R.out.below hbk (by have := HN.out; omega))
      replace HB := Lib.hid (HB.out.trans (hbk.mono (by have := HN.out; omega)))
      replace O := Lib.hid ho
      clear ho hg hbb hz hbk HNN R11 HSZ y0 y1 y2 yf0 yf1 yf2
      have HK4 : Hid (k4 < w'.heap.size) := Lib.hid R4.out.lt
      obtain ⟨q0, q1, q2, qf0, qf1, qf2⟩ := R4.out.c3
      go_upto_region 15 with (fail)
      have R5 := Lib.hid (R4.out.set 2 (.slice po' 17 co') (cs' := #[.bool true, .string ⟨#[]⟩, .slice po' 17 co']) rfl)
      replace O := Lib.hid (O.out.setLow ⟨k4, 2, none⟩ (.slice po' 17 co') (Nat.lt_succ_self _) (fun b hb => by simp only; omega))
      have R1 := Lib.hid (R.out.other ⟨k4, 2, none⟩ (.slice po' 17 co') (by have := HN.out; simp only; omega))
      replace HB := Lib.hid (HB.out.setCell (p := ⟨k4, 2, none⟩) (by have := HN.out; simp only; omega) (.slice po' 17 co'))
      clear q0 q1 q2 qf0 qf1 qf2 R R4
      generalize w'.setCell ⟨k4, 2, none⟩ (.slice po' 17 co') = w9 at *
      obtain ⟨q0, q1, q2, qf0, qf1, qf2⟩ := R5.out.c3
      obtain ⟨x0, x1, x2, xf0, xf1, xf2⟩ := R1.out.c3
      go_wp2
      obtain ⟨r, bb⟩ := box3 R1.out HB.out (Nat.le_refl _) (.bool true) (.string ⟨#[]⟩) (.slice po' 17 co')
      obtain ⟨e0, e1, e2, _⟩ := r.c3
      refine bodyPost_ret (v := .agg #[.bool true, .string ⟨#[]⟩, .slice po' 17 co']) (by simp [results, Try.results50, go_sem, e0, e1, e2]) rfl ?_
      have HI := O.out.row (fun b hb => by omega)
      have HL17 : (itTs (xs ++ [strI val])).length = 17 := by rw [itTs_map]; simp; have := HXL.out; omega
      refine ⟨_, rfl, true, [], po', 17, co', xs ++ [strI val], rfl, rfl, bb, HI.keep (fun a v ha hc => by rw [World.cell?_setCell_other, World.cell?_setCell_other, World.cell?_setCell_other]; exact hc; all_goals (intro e; subst e; have := HN.out; simp only at ha; omega)) (fun b hb => by have := HN.out; omega)⟩
end Go.Proofs.Ytefmlbckbhlgdaa
namespace Go.Proofs.Ytefmlbckbhlgdaa
open Go.RowKit Go.Shelf
set_option maxRecDepth 100000
theorem OwnT.at2 {α : Type} {E : TE α} {T : TypeId} {A : Nat → Prop} {w : World} {base : Nat} {p : Option Addr} {n c : Nat} {ts : List (Tr α)} (h : OwnT E T A w base (.slice p n c) ts) {i : Nat} {t : Tr α} (ht : ts[i]? = some t) :
    ∃ ad s, p = some ad ∧ (∀ r u, (E.enc.cells (t.val, s))[r]? = some u → w.cell? ((ad.add (i * (E.n + 1))).add r) = some u) ∧ RowT E (fun b => A b ∧ (Value.slice p n c).ownBlock ≠ some b) w (slV s) t.kids := by
  obtain ⟨xs, hl, ho, h⟩ := h
  have hi := (List.getElem?_eq_some_iff.1 ht).1
  have hx := List.getElem?_eq_getElem (show i < xs.length by omega)
  have hp := h i t _ ht hx
  generalize xs[i] = x at *
  obtain ⟨a, s⟩ := x
  have e := hp.parts.1
  simp only at e
  subst e
  rcases OwnE.row E.enc ho with ⟨_, rfl⟩ | ⟨ad, cap, hv, h1, h2, hc⟩
  · simp at hl; omega
  · have hv' := hv
    injection hv' with e1 e2 e3
    refine ⟨ad, s, e1, fun r u hr => ?_, hp.row⟩
    rw [Go.Deep.add_add]
    refine hc _ _ ?_
    have hr' : r < E.enc.k := by have := (List.getElem?_eq_some_iff.1 hr).1; rwa [E.enc.len] at this
    rw [show i * (E.n + 1) + r = i * E.enc.k + r from rfl, flat_get _ hx r hr']
    exact hr

theorem rlistP_any (p : Option Addr) (n c : Nat) (w : World) :
    Calls Try.prog 87 #[.slice p n c] w fun e w' => e = .returned (.agg #[.bool true, .string ⟨#[]⟩, .slice p n c]) ∧ Below w.heap.size w w' := by
  go_enter Try.func87, Try.ntmps87
  go_wp2
  refine bodyPost_ret (v := .agg #[.bool true, .string ⟨#[]⟩, .slice p n c]) (by simp [results, Try.results87, go_sem]) rfl ?_
  exact ⟨rfl, (Below.refl _ _).alloc (Nat.le_refl _) _⟩

/-- What tells the nodes' sums: the items so far, and the last one written; the items' kids lie in blocks from 'base' on. -/
structure SmT (w : World) (k base : Nat) (po : Option Addr) (co : Nat) (last : List UInt8) (its : List It) : Prop where
  row : RowAt w k #[.slice po its.length co, .string (mkS last)] 95
  own : OwnT encIt 98 (fun b => base ≤ b) w base (.slice po its.length co) (itTs its)
  lt : k < base
  le : base ≤ w.heap.size
theorem SmT.below {w w' : World} {k base : Nat} {po : Option Addr} {co : Nat} {last : List UInt8} {its : List It} (h : SmT w k base po co last its) (hb : Below w.heap.size w w') : SmT w' k base po co last its :=
  ⟨h.row.belowS hb, h.own.below hb (Nat.le_refl _), h.lt, Nat.le_trans h.le hb.size⟩
/-- A node that was told of: an item whose kids lie in blocks of the class. -/
def ItC (A : Nat → Prop) (w : World) (u : Value) (x : It) : Prop := ∃ l b p n c ks, u = .agg #[.bool l, .string (mkS b), .slice p n c] ∧ x = .mk l b ks ∧ RowT encIt A w (.slice p n c) (itTs ks)

set_option maxHeartbeats 4000000 in
theorem stold_any {A : Nat → Prop} (its : List It) (i : Int) (hi : i = -1 ∨ (0 ≤ i ∧ i < its.length)) (k base : Nat) (po : Option Addr) (co : Nat) (sv : Value) (w : World) (SR : RowAt w k #[.slice po its.length co, sv] 95) (SO : OwnT encIt 98 A w base (.slice po its.length co) (itTs its)) :
    Calls Try.prog 88 #[.pointer (some ⟨k, 0, none⟩), .int .i64 i] w fun e w' => ∃ u, e = .returned u ∧ ItC (fun b => A b ∧ (Value.slice po its.length co).ownBlock ≠ some b) w' u (toldI its i) ∧ Below w.heap.size w w' := by
  have R := Lib.hid (RowAt.new w #[.bool false, .string ⟨#[]⟩, .slice none 0 0] 98)
  have HB := Lib.hid ((Below.refl w.heap.size w).alloc (Nat.le_refl _) (.cells #[.bool false, .string ⟨#[]⟩, .slice none 0 0] 98))
  have HR := Lib.hid (SR.belowS HB.out)
  by_cases h1 : i = -1
  · subst h1
    go_enter Try.func88, Try.ntmps88
    go_upto_region 1 with (fail)
    generalize w.alloc (.cells #[.bool false, .string ⟨#[]⟩, .slice none 0 0] 98) = w1 at *
    obtain ⟨y0, y1, y2, yf0, yf1, yf2⟩ := R.out.c3
    go_wp2
    obtain ⟨r, bb⟩ := box3 R.out HB.out (Nat.le_refl _) (.bool false) (.string ⟨#[]⟩) (.slice none 0 0)
    obtain ⟨e0, e1, e2, _⟩ := r.c3
    refine bodyPost_ret (v := .agg #[.bool false, .string ⟨#[]⟩, .slice none 0 0]) (by simp [results, Try.results88, go_sem, e0, e1, e2]) rfl ?_
    exact ⟨_, rfl, ⟨false, [], none, 0, 0, [], rfl, rfl, RowT.nil⟩, bb⟩
  · obtain ⟨n, rfl⟩ : ∃ n : Nat, i = n := ⟨i.toNat, by omega⟩
    have hn : n < its.length := by omega
    have hx := List.getElem?_eq_getElem hn
    have et : toldI its (n : Int) = its[n] := by unfold toldI; rw [if_neg h1]; unfold List.getD; rw [Int.toNat_natCast, hx]; rfl
    have ht : (itTs its)[n]? = some (itT its[n]) := by rw [itTs_map, List.getElem?_map, hx]; rfl
    rw [et]
    generalize its[n] = x at *
    obtain ⟨l, b, ks⟩ := x
    obtain ⟨ad, ⟨q, m, c⟩, rfl, hc, hr⟩ := OwnT.at2 SO ht
    have d0 := hc 0 _ rfl
    have d1 := hc 1 _ rfl
    have d2 := hc 2 _ rfl
    have HT := Lib.hid hr
    clear hc hr hi ht et hx
    have z := SO.shape
    rw [itTs_map, List.length_map] at z
    obtain ⟨_, _, z0, z1, z2⟩ := z
    injection z0 with e1 _ z0
    subst z0
    clear e1
    unfold maxLen at z2
    have N1 := Lib.hid (show k < w.heap.size from SR.lt)
    generalize its.length = ln at *
    go_enter Try.func88, Try.ntmps88
    go_upto_region 1 with (fail)
    generalize w.alloc (.cells #[.bool false, .string ⟨#[]⟩, .slice none 0 0] 98) = w1 at *
    replace d0 : w.cell? (ad.add (n * 3)) = some (.bool l) := by rw [Addr.add_zero'] at d0; exact d0
    replace d1 : w.cell? ⟨(ad.add (n * 3)).block, (ad.add (n * 3)).off + 1, none⟩ = some (.string (mkS b)) := d1
    replace d2 : w.cell? ⟨(ad.add (n * 3)).block, (ad.add (n * 3)).off + 2, none⟩ = some (.slice q m c) := d2
    rw [← HB.out.cell (block_lt_of_cell d0)] at d0
    rw [← HB.out.cell (block_lt_of_cell d1)] at d1
    rw [← HB.out.cell (block_lt_of_cell d2)] at d2
    obtain ⟨y0, y1, y2, yf0, yf1, yf2⟩ := R.out.c3
    obtain ⟨x0, x1, xf0, xf1⟩ := HR.out.c2
    have hln : ln ≤ 9223372036854775807 := by omega
    go_wp2
    obtain ⟨r, bb⟩ := box3 R.out HB.out (Nat.le_refl _) (.bool l) (.string (mkS b)) (.slice q m c)
    obtain ⟨e0, e1, e2, _⟩ := r.c3
    refine bodyPost_ret (v := .agg #[.bool l, .string (mkS b), .slice q m c]) (by simp [results, Try.results88, go_sem, e0, e1, e2]) rfl ?_
    refine ⟨_, rfl, ⟨l, b, q, m, c, ks, rfl, rfl, ?_⟩, bb⟩
    refine HT.out.keep (fun a v _ hc => ?_) (fun b hb => hb)
    have := block_lt_of_cell hc
    rw [bb.cell this]
    exact hc
end Go.Proofs.Ytefmlbckbhlgdaa
