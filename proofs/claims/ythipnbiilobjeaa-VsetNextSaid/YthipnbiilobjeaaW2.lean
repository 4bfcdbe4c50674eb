/- The reference's numbers: rows of digits of 16 bits. The reference's numbers: the digits of one; sums. -/
import Derived.Test.YthipnbiilobjeaaApp
import Derived.Test.YthipnbiilobjeaaU7
import Derived.BigRegion
import Derived.Deep.DeepCutAuto
namespace Go.Proofs.Ythipnbiilobjeaa
open Go.RowKit Go.Shelf

def encI : Enc Int := ⟨1, fun n => [.int .i64 n], fun _ => rfl, fun x u h => by simp at h; subst h; rfl, by decide⟩
theorem info_int : (Try.prog.info? 3).map (fun i => (i.zero, i.size, i.bytes)) = some (some (.int .i64 0), 1, 8) := by kernel_rfl
def RI (w : World) (v : Value) (l : List Int) : Prop := RowE encI w v l
theorem RI.below {w w' : World} {v : Value} {l : List Int} {B : Nat} (h : RI w v l) (hb : Below B w w') (hB : w.heap.size ≤ B) : RI w' v l := RowE.below encI h hb hB
def OI (w : World) (base : Nat) (v : Value) (l : List Int) : Prop := OwnE encI 3 w base v l
theorem OI.below {w w' : World} {base B : Nat} {v : Value} {l : List Int} (h : OI w base v l) (hb : Below B w w') (hB : w.heap.size ≤ B) : OI w' base v l := OwnE.below encI h hb hB

theorem RI.at {w : World} {p : Option Addr} {n c : Nat} {l : List Int} (h : RI w (.slice p n c) l) : ∀ i x, l[i]? = some x → ∃ a, p = some a ∧ w.cell? (a.add i) = some (.int .i64 x) := by
  rcases h with ⟨_, rfl⟩ | ⟨a, cap, hv, h1, h2, hc⟩
  · intro i s hs; simp at hs
  · injection hv with e1 e2 e3
    subst e1 e2 e3
    refine fun i s hs => ⟨a, rfl, ?_⟩
    have := flat_get encI hs 0 (by decide)
    refine hc i _ ?_
    have e : i * encI.k + 0 = i := by show i * 1 + 0 = i; omega
    rw [e] at this
    rw [this]
    rfl

def DigOk (l : List Int) : Prop := ∀ x ∈ l, 0 ≤ x ∧ x < 65536
def nval : List Int → Int
  | [] => 0
  | x :: l => x + 65536 * nval l
def dg (l : List Int) (i : Nat) : Int := l.getD i 0
theorem dg_in {l : List Int} {i : Nat} (h : i < l.length) : dg l i = l[i] := by simp [dg, List.getD, List.getElem?_eq_getElem h]
theorem dg_out {l : List Int} {i : Nat} (h : l.length ≤ i) : dg l i = 0 := by simp [dg, List.getD, List.getElem?_eq_none h]
theorem dg_ok {l : List Int} (h : DigOk l) (i : Nat) : 0 ≤ dg l i ∧ dg l i < 65536 := by
  by_cases hi : i < l.length
  · rw [dg_in hi]; exact h _ (List.getElem_mem hi)
  · rw [dg_out (by omega)]; omega
theorem nval_drop (l : List Int) (i : Nat) : nval (l.drop i) = dg l i + 65536 * nval (l.drop (i + 1)) := by
  by_cases h : i < l.length
  · rw [List.drop_eq_getElem_cons h, nval, dg_in h]
  · rw [List.drop_eq_nil_of_le (by omega), List.drop_eq_nil_of_le (by omega), dg_out (by omega)]
    simp [nval]
theorem nval_up {a b : List Int} (ha : DigOk a) (hb : DigOk b) : ∀ i : Nat, nval (a.drop i) < nval (b.drop i) → nval a < nval b
  | 0, h => by simpa using h
  | i + 1, h => nval_up ha hb i (by
      rw [nval_drop a i, nval_drop b i]
      have := dg_ok ha i
      have := dg_ok hb i
      omega)

/-- The digits of a number. -/
def digAt (a : U4) (k : Nat) : Int := wordAt a (k / 4) / 2 ^ (16 * (k % 4)) % 65536
def ofL (a : U4) : List Int := (List.range 16).map (digAt a)
theorem ofL_length (a : U4) : (ofL a).length = 16 := by simp [ofL]
theorem digAt_ok (a : U4) (k : Nat) : 0 ≤ digAt a k ∧ digAt a k < 65536 := by
  unfold digAt
  omega
theorem ofL_ok (a : U4) : DigOk (ofL a) := fun x hx => by
  obtain ⟨k, _, rfl⟩ := List.mem_map.1 hx
  exact digAt_ok a k
theorem word_digits {x : Int} (h : WordOk x) : x / 1 % 65536 + 65536 * (x / 65536 % 65536) + 4294967296 * (x / 4294967296 % 65536) + 281474976710656 * (x / 281474976710656 % 65536) = x := by
  obtain ⟨h1, h2⟩ := h
  omega
theorem ofL_val {a : U4} (ha : a.ok) : nval (ofL a) = a.val := by
  obtain ⟨a0, a1, a2, a3⟩ := a
  obtain ⟨h0, h1, h2, h3⟩ := ha
  have e0 := word_digits h0
  have e1 := word_digits h1
  have e2 := word_digits h2
  have e3 := word_digits h3
  have r : List.range 16 = [0, 1, 2, 3, 4, 5, 6, 7, 8, 9, 10, 11, 12, 13, 14, 15] := rfl
  simp only [ofL, r, List.map_cons, List.map_nil, nval, digAt, wordAt, U4.val] at *
  simp only [Nat.reduceDiv, Nat.reduceMod, Nat.reduceMul, Int.reducePow, wordAt] at *
  omega

set_option maxRecDepth 100000 in
set_option maxHeartbeats 2000000 in
theorem digit_any (v : Value) (l : List Int) (i : Nat) (w : World) (h : RI w v l) : Calls Try.prog 166 #[v, .int .i64 i] w fun e w' => e = .returned (.int .i64 (dg l i)) ∧ w = w' := by
  obtain ⟨p, c, rfl, h1, h2⟩ := RowE.shape encI h
  by_cases hi : i < l.length
  · obtain ⟨a, rfl, hc⟩ := RI.at h i l[i] (List.getElem?_eq_getElem hi)
    have e := dg_in hi
    generalize l[i] = x at *
    generalize dg l i = y at *
    subst e
    clear h
    go_enter Try.func166, Try.ntmps166
    go_wp2
    go_ret
    exact ⟨rfl, rfl⟩
  · have e := dg_out (show l.length ≤ i by omega)
    generalize dg l i = y at *
    subst e
    clear h
    go_enter Try.func166, Try.ntmps166
    go_wp2
    go_ret
    exact ⟨rfl, rfl⟩

set_option maxRecDepth 100000 in
set_option maxHeartbeats 2000000 in
theorem less_num (va vb : Value) (a b : List Int) (w : World) (hA : RI w va a) (hB : RI w vb b) (da : DigOk a) (db : DigOk b) (la : a.length ≤ 2000000) (lb : b.length ≤ 2000000) :
    Calls Try.prog 135 #[va, vb] w fun e w' => e = .returned (.bool (decide (nval a < nval b))) ∧ w = w' := by
  have KA := Lib.hid (fun i => digit_any va a i w hA)
  have KB := Lib.hid (fun i => digit_any vb b i w hB)
  obtain ⟨pa, ca, rfl, h1, h2⟩ := RowE.shape encI hA
  obtain ⟨pb, cb, rfl, h3, h4⟩ := RowE.shape encI hB
  have ND := Lib.hid (fun i => nval_drop a i)
  have NE := Lib.hid (fun i => nval_drop b i)
  have UP := Lib.hid (fun i => nval_up da db i)
  have DN := Lib.hid (fun i => nval_up db da i)
  have DA := Lib.hid (fun i => dg_ok da i)
  have DB := Lib.hid (fun i => dg_ok db i)
  clear hA hB da db
  have hst : nval (a.drop (max a.length b.length)) = nval (b.drop (max a.length b.length)) := by rw [List.drop_eq_nil_of_le (by omega), List.drop_eq_nil_of_le (by omega)]
  have HST := Lib.hid hst
  have hN1 : a.length ≤ max a.length b.length := by omega
  have hN2 : max a.length b.length ≤ 2000000 := by omega
  have hNN : (a.length < b.length → max a.length b.length = b.length) ∧ (¬ a.length < b.length → max a.length b.length = a.length) := by omega
  generalize max a.length b.length = N at *
  clear hst
  go_enter Try.func135, Try.ntmps135
  go_upto_if 12 with (fail)
  go_cut [5] (fun s wr => s = .int .i64 N ∧ w = wr)
  case first =>
    by_cases h : a.length < b.length
    · have hn := Lib.hid (hNN.1 h)
      have hq : (a.length : Int) < (b.length : Int) := by omega
      clear hNN h hN1 hN2
      go_wp2
      go_meet
      case rel => exact ⟨by rw [hn.out], rfl⟩
    · have hn := Lib.hid (hNN.2 h)
      have hq : ¬ (a.length : Int) < (b.length : Int) := by omega
      clear hNN h hN1 hN2
      go_wp2
      go_meet
      case rel => exact ⟨by rw [hn.out], rfl⟩
  case rest =>
    obtain ⟨rfl, rfl⟩ := hcut
    clear hNN
    go_wp2
    go_loop [6] (fun s => ∃ k : Nat, k ≤ N ∧ s = .int .i64 ((k : Int) - 1) ∧ Hid (nval (a.drop k) = nval (b.drop k))) (fun s => (intOf s + 1).toNat)
    case atStart => exact ⟨N, Nat.le_refl _, rfl, HST⟩
    case round =>
      obtain ⟨k, hk, rfl, he⟩ := hrel
      cases k with
      | zero =>
        have hno : Hid (decide (nval a < nval b) = false) := Lib.hid (by have := he.out; simp only [List.drop_zero] at this; simp; omega)
        clear he
        go_wp2
        go_ret
        exact ⟨by rw [hno.out]; rfl, rfl⟩
      | succ k =>
        have hi : ((k + 1 : Nat) : Int) - 1 = (k : Int) := by omega
        have ka := KA.out k
        have kb := KB.out k
        have h1 := he.out
        have h2 := ND.out k
        have h3 := NE.out k
        have h4 := UP.out k
        have h5 := DN.out k
        have h6 := DA.out k
        have h7 := DB.out k
        clear he
        generalize dg a k = x at *
        generalize dg b k = y at *
        by_cases e : x = y
        · have hn := Lib.hid (show nval (a.drop k) = nval (b.drop k) by omega)
          subst e
          have ka := Lib.hid ka
          have kb := Lib.hid kb
          clear h1 h2 h3 h4 h5 h6 h7
          go_wp2_with (go_at_call 166; first | (with_reducible refine ka.out.mono ?_; rintro e w1 ⟨rfl, rfl⟩) | (with_reducible refine kb.out.mono ?_; rintro e w1 ⟨rfl, rfl⟩))
          exact ⟨⟨k, by omega, by simp, hn⟩, by simp [intOf]⟩
        · have hv : Hid (decide (nval a < nval b) = decide (x < y)) := Lib.hid (by
            by_cases hxy : x < y
            · have := h4 (by omega)
              simp [this, hxy]
            · have := h5 (by omega)
              simp [hxy]
              omega)
          have ka := Lib.hid ka
          have kb := Lib.hid kb
          clear h1 h2 h3 h4 h5 h6 h7
          go_wp2_with (go_at_call 166; first | (with_reducible refine ka.out.mono ?_; rintro e w1 ⟨rfl, rfl⟩) | (with_reducible refine kb.out.mono ?_; rintro e w1 ⟨rfl, rfl⟩))
          go_ret
          exact ⟨by rw [hv.out]; rfl, rfl⟩
end Go.Proofs.Ythipnbiilobjeaa

namespace Go.Proofs.Ythipnbiilobjeaa
open Go.RowKit Go.Shelf

set_option maxRecDepth 100000 in
set_option maxHeartbeats 400000 in
theorem of_any (a : U4) (ha : a.ok) (w : World) : Calls Try.prog 133 #[u4V a] w fun e w' => ∃ v, e = .returned v ∧ RI w' v (ofL a) ∧ Below w.heap.size w w' := by
  have R1 := Lib.hid (RowAt.new w (u4c a) 78)
  have HB0 := Lib.hid (belowA w (.cells (u4c a) 78))
  have O := Lib.hid (show OI ((w.alloc (.cells (u4c a) 78)).alloc (.cells #[] 3)) (w.heap.size + 1) (.slice (some ⟨w.heap.size + 1, 0, none⟩) 0 0) [] from by
    have := OwnE.start encI (T := 3) (w := w.alloc (.cells (u4c a) 78)) (base := w.heap.size + 1) (by simp)
    rwa [show (w.alloc (.cells (u4c a) 78)).heap.size = w.heap.size + 1 by simp] at this)
  have HB1 := Lib.hid (show Below (w.heap.size + 1) (w.alloc (.cells (u4c a) 78)) ((w.alloc (.cells (u4c a) 78)).alloc (.cells #[] 3)) from (Below.refl _ _).alloc (by simp) _)
  have HW : Hid (∀ q, q < 4 → (u4c a)[q]? = some (.int .u64 (wordAt a q))) := Lib.hid (fun q hq => by
    have : q = 0 ∨ q = 1 ∨ q = 2 ∨ q = 3 := by omega
    rcases this with rfl | rfl | rfl | rfl <;> rfl)
  have HG : Hid (∀ q, 0 ≤ wordAt a q) := Lib.hid (fun q => by
    obtain ⟨h0, h1, h2, h3⟩ := ha
    unfold wordAt
    split
    · exact h0.1
    · exact h1.1
    · exact h2.1
    · exact h3.1)
  clear ha
  have HD : Hid (∀ k, digAt a k = wordAt a (k / 4) / 2 ^ (16 * (k % 4)) % 65536) := Lib.hid (fun k => rfl)
  have HL : Hid (∀ k, k < 16 → (ofL a).take (k + 1) = (ofL a).take k ++ [digAt a k]) := Lib.hid (fun k hk => by
    rw [List.take_add_one]
    simp [ofL, hk])
  have HE : Hid ((ofL a).take 16 = ofL a) := Lib.hid (List.take_of_length_le (by rw [ofL_length]; exact Nat.le_refl _))
  have HZ : Hid ((ofL a).take 0 = []) := Lib.hid rfl
  have HLL : Hid (∀ k, ((ofL a).take k).length ≤ 16) := Lib.hid (fun k => by rw [List.length_take, ofL_length]; omega)
  generalize digAt a = f at *
  generalize wordAt a = g at *
  generalize ofL a = L at *
  obtain ⟨a0, a1, a2, a3⟩ := a
  go_enter Try.func133, Try.ntmps133
  go_wp2
  have hs1 : (w.alloc (.cells (u4c (a0, a1, a2, a3)) 78)).heap.size = w.heap.size + 1 := by simp
  generalize w.alloc (.cells (u4c (a0, a1, a2, a3)) 78) = W1 at *
  have HS1 := Lib.hid hs1
  clear hs1
  go_loopw [3, 4] (fun s3 s4 wr => ∃ k : Nat, k ≤ 16 ∧ s4 = .int .i64 k ∧ Hid (OI wr (w.heap.size + 1) s3 (L.take k)) ∧ Hid (Below (w.heap.size + 1) W1 wr)) (fun _ s _ => (16 - intOf s).toNat)
  case atStart => exact ⟨0, by omega, rfl, Lib.hid (by rw [HZ.out]; exact O.out), HB1⟩
  case round =>
    clear O HB1 HZ
    obtain ⟨k, hk, rfl, ho, hb⟩ := hrel
    have O := Lib.hid ho.out
    have HB := Lib.hid hb.out
    clear ho hb
    by_cases hlt : k < 16
    · have hq : (k : Int).tdiv 4 = ((k / 4 : Nat) : Int) := by rw [Int.tdiv_eq_ediv_of_nonneg (by omega)]; omega
      have hr : (k : Int).tmod 4 = ((k % 4 : Nat) : Int) := by rw [Int.tmod_eq_emod_of_nonneg (by omega)]; omega
      have hx : wr.cell? ⟨w.heap.size, k / 4, none⟩ = some (.int .u64 (g (k / 4))) := by
        rw [(R1.out.below HB.out (by omega)).cell]; exact HW.out _ (by omega)
      have hd := HD.out k
      have hl := HL.out k hlt
      have hq4 : k / 4 < 4 := by omega
      have hr4 : k % 4 < 4 := by omega
      generalize k / 4 = q at *
      generalize k % 4 = r at *
      have hgq := HG.out q
      have hp : (0 : Int) < 2 ^ (16 * r) := Int.pow_pos (by decide)
      have hdiv : 0 ≤ g q / 2 ^ (16 * r) := Int.ediv_nonneg hgq (by omega)
      have h1 : (g q / 2 ^ (16 * r)).tmod 65536 = f k := by rw [Int.tmod_eq_emod_of_nonneg hdiv, hd]
      have hf : 0 ≤ f k ∧ f k < 65536 := by rw [hd]; omega
      have h2 : IntKind.i64.wrap (f k) = f k := by rw [IntKind.wrap_i64]; omega
      have HL1 := Lib.hid hl
      have hll := HLL.out k
      clear hd hgq hp hdiv hl
      generalize f k = y at *
      go_upto_region 4 with (at_builtin; refine wpList_append_rowE encI Try.underlying175 info_int rfl rfl _ _ rfl (w.heap.size + 1) _ (L.take k) rfl (O.out.below ((Below.refl _ _).alloc (Nat.le_refl _) _) (Nat.le_refl _)) _ [y] rfl (RowE.lit encI (RowAt.new wr #[.int .i64 y] _) y rfl) (by unfold maxLen; simp; omega) (by simp; omega) (by have := HB.out.size; have := HS1.out; simp; omega) ?_)
      intro v' w' ho hb _ _
      have HO := Lib.hid (show OI w' (w.heap.size + 1) v' (L.take (k + 1)) by rw [HL1.out]; exact ho)
      have HB2 := Lib.hid (hb _ (HB.out.alloc (by have := HB.out.size; have := HS1.out; omega) _))
      clear ho hb
      go_wp2
      exact ⟨⟨k + 1, by omega, by simp, HO, HB2⟩, by simp [intOf]; omega⟩
    · obtain rfl : k = 16 := by omega
      have O2 := O.out
      rw [HE.out] at O2
      have O2 := Lib.hid O2
      clear O
      go_wp2
      go_ret
      exact ⟨_, rfl, OwnE.row encI O2.out, HB0.out.trans (HB.out.mono (by have := HS1.out; omega))⟩

set_option maxRecDepth 100000 in
set_option maxHeartbeats 1000000 in
theorem sum_num (va vb : Value) (a b : List Int) (w : World) (hA : RI w va a) (hB : RI w vb b) (da : DigOk a) (db : DigOk b) (la : a.length ≤ 1000000) (lb : b.length ≤ 1000000) :
    Calls Try.prog 136 #[va, vb] w fun e w' => ∃ v l, e = .returned v ∧ RI w' v l ∧ DigOk l ∧ nval l = nval a + nval b ∧ l.length ≤ 1000001 ∧ Below w.heap.size w w' := by
  have KA := Lib.hid (fun i W (hb : Below w.heap.size w W) => digit_any va a i W (RI.below hA hb (Nat.le_refl _)))
  have KB := Lib.hid (fun i W (hb : Below w.heap.size w W) => digit_any vb b i W (RI.below hB hb (Nat.le_refl _)))
  obtain ⟨pa, ca, rfl, h1, h2⟩ := RowE.shape encI hA
  obtain ⟨pb, cb, rfl, h3, h4⟩ := RowE.shape encI hB
  have ND := Lib.hid (fun i => nval_drop a i)
  have NE := Lib.hid (fun i => nval_drop b i)
  have DA := Lib.hid (fun i => dg_ok da i)
  have DB := Lib.hid (fun i => dg_ok db i)
  have EA := Lib.hid (fun i (h : a.length ≤ i) => (show nval (a.drop i) = 0 ∧ dg a i = 0 from ⟨by rw [List.drop_eq_nil_of_le h]; rfl, dg_out h⟩))
  have EB := Lib.hid (fun i (h : b.length ≤ i) => (show nval (b.drop i) = 0 ∧ dg b i = 0 from ⟨by rw [List.drop_eq_nil_of_le h]; rfl, dg_out h⟩))
  clear hA hB da db
  have O := Lib.hid (show OI (w.alloc (.cells #[] 3)) w.heap.size (.slice (some ⟨w.heap.size, 0, none⟩) 0 0) [] from OwnE.start encI (Nat.le_refl _))
  have HB1 := Lib.hid (show Below w.heap.size w (w.alloc (.cells #[] 3)) from belowA w _)
  have HR0 : Hid (∀ R : List Int, nval R = 0 + nval (a.drop 0) + nval (b.drop 0) → nval ([] ++ R) = nval a + nval b) := Lib.hid (fun R h => by simpa using h)
  have HD0 : Hid (DigOk []) := Lib.hid (fun x h => by cases h)
  obtain ⟨N, hN1, hN2, hN3⟩ : ∃ N : Nat, a.length ≤ N ∧ b.length ≤ N ∧ N ≤ 1000000 ∧ (N = a.length ∨ N = b.length) := ⟨max a.length b.length, by omega, by omega, by omega, by omega⟩
  go_enter Try.func136, Try.ntmps136
  go_wp2
  go_loopw [5, 6, 7] (fun s5 s6 s7 wr => ∃ (k : Nat) (c : Int) (out : List Int), k ≤ N + 1 ∧ (N < k → c = 0) ∧ 0 ≤ c ∧ c ≤ 1 ∧ out.length = k ∧ s6 = .int .i64 c ∧ s7 = .int .i64 k ∧ Hid (OI wr w.heap.size s5 out) ∧ Hid (DigOk out) ∧ Hid (∀ R : List Int, nval R = c + nval (a.drop k) + nval (b.drop k) → nval (out ++ R) = nval a + nval b) ∧ Hid (Below w.heap.size w wr)) (fun _ _ s _ => (N + 1 : Int).toNat - (intOf s).toNat)
  case atStart => exact ⟨0, 0, [], by omega, by omega, by omega, by omega, rfl, rfl, rfl, O, HD0, HR0, HB1⟩
  case round =>
    clear O HB1 HR0 HD0
    obtain ⟨k, c, out, hk, hkc, hc0, hc1, hol, rfl, rfl, ho, hd, hr, hb⟩ := hrel
    have O := Lib.hid ho.out
    have HD := Lib.hid hd.out
    have HR := Lib.hid hr.out
    have HB := Lib.hid hb.out
    clear ho hd hr hb
    by_cases hgo : k < a.length ∨ k < b.length ∨ c = 1
    · have ka := Lib.hid (KA.out k wr HB.out)
      have kb := Lib.hid (KB.out k wr HB.out)
      have e1 := ND.out k
      have e2 := NE.out k
      have e3 := DA.out k
      have e4 := DB.out k
      have hNk : k ≤ N := by
        rcases hgo with h | h | h
        · omega
        · omega
        · by_cases hh : N < k
          · have := hkc hh; omega
          · omega
      have hlast : N ≤ k → dg a k = 0 ∧ dg b k = 0 := fun h => ⟨(EA.out k (by omega)).2, (EB.out k (by omega)).2⟩
      generalize dg a k = x at *
      generalize dg b k = y at *
      have q1 : IntKind.i64.wrap (x + y) = x + y := by rw [IntKind.wrap_i64]; omega
      have q2 : IntKind.i64.wrap (x + y + c) = x + y + c := by rw [IntKind.wrap_i64]; omega
      have q3 : (x + y + c).tmod 65536 = (x + y + c) % 65536 := Int.tmod_eq_emod_of_nonneg (by omega)
      have q4 : (x + y + c).tdiv 65536 = (x + y + c) / 65536 := Int.tdiv_eq_ediv_of_nonneg (by omega)
      have hcar : 0 ≤ (x + y + c) / 65536 ∧ (x + y + c) / 65536 ≤ 1 := by omega
      have hdg : 0 ≤ (x + y + c) % 65536 ∧ (x + y + c) % 65536 < 65536 := by omega
      have hsum : (x + y + c) % 65536 + 65536 * ((x + y + c) / 65536) = x + y + c := by omega
      have hlc : N < k + 1 → (x + y + c) / 65536 = 0 := fun h => by have := hlast (by omega); omega
      have HR2 : Hid (∀ R : List Int, nval R = (x + y + c) / 65536 + nval (a.drop (k + 1)) + nval (b.drop (k + 1)) → nval ((out ++ [(x + y + c) % 65536]) ++ R) = nval a + nval b) := Lib.hid (fun R h => by
        rw [List.append_assoc]
        refine HR.out _ ?_
        rw [List.singleton_append, nval]
        omega)
      have HD2 : Hid (DigOk (out ++ [(x + y + c) % 65536])) := Lib.hid (fun z hz => by
        rcases List.mem_append.1 hz with hz | hz
        · exact HD.out z hz
        · rw [List.mem_singleton] at hz
          subst hz
          exact hdg)
      generalize (x + y + c) % 65536 = d at *
      generalize (x + y + c) / 65536 = c' at *
      have HLC := Lib.hid hlc
      clear e1 e2 e3 e4 hlast hkc hsum hlc HR HD
      by_cases h1' : k < a.length
      rotate_left
      by_cases h2' : k < b.length
      rotate_left
      obtain rfl : c = 1 := by omega
      rotate_left
      all_goals
        clear hgo
        go_upto_region 8 with (first | (go_at_call 166; first | (with_reducible refine ka.out.mono ?_; rintro e w1 ⟨rfl, rfl⟩) | (with_reducible refine kb.out.mono ?_; rintro e w1 ⟨rfl, rfl⟩)) | (at_builtin; refine wpList_append_rowE encI Try.underlying175 info_int rfl rfl _ _ rfl w.heap.size _ out rfl (O.out.below ((Below.refl _ _).alloc (Nat.le_refl _) _) (Nat.le_refl _)) _ [d] rfl (RowE.lit encI (RowAt.new wr #[.int .i64 d] _) d rfl) (by unfold maxLen; simp; omega) (by simp; omega) (by have := HB.out.size; simp; omega) ?_))
        intro v' w' ho hb _ _
        have HO := Lib.hid (show OI w' w.heap.size v' (out ++ [d]) from ho)
        have HB2 := Lib.hid (hb _ (HB.out.alloc HB.out.size _))
        clear ho hb
        go_wp2
        exact ⟨⟨k + 1, c', out ++ [d], by omega, HLC.out, hcar.1, hcar.2, by simp [hol], rfl, by simp, HO, HD2, HR2, HB2⟩, by simp [intOf]; omega⟩
    · have h1' : ¬ k < a.length := by omega
      have h2' : ¬ k < b.length := by omega
      obtain rfl : c = 0 := by omega
      have hv := Lib.hid (HR.out [] (by rw [(EA.out k (by omega)).1, (EB.out k (by omega)).1]; rfl))
      rw [List.append_nil] at hv
      clear hgo
      go_wp2
      go_ret
      exact ⟨_, rfl, out, OwnE.row encI O.out, HD.out, hv.out, by omega, HB.out⟩
end Go.Proofs.Ythipnbiilobjeaa
