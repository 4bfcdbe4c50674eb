/- A round of the sums' mixing. Headers' sums, in plain words and walked: Seal, Id, Turn. The reference's numbers: rows of digits of 16 bits. The reference's numbers: the digits of one; sums. May a signature be, says the reference. May a header be, says the reference. The sums' words again: what the reference's steps make of them, in plain words. The reference's words: left, at, turn, word, row, last. The reference's round. The reference's Mix; bytes out of a string, grown; the reference's Sum. The reference's Sum. -/
import Derived.BigRegion
import Derived.Deep.DeepCutAuto
import Derived.Deep.WholeRow
import Derived.Laws.IdiomStrings
import Derived.ArgAppend
import Derived.Test.YtefmlbckbhlgdaaRa0
import Derived.Test.YtefmlbckbhlgdaaRa1
import Derived.Test.YtefmlbckbhlgdaaRa15
import Derived.Test.YtefmlbckbhlgdaaRa16
import Derived.Test.YtefmlbckbhlgdaaRa17
namespace Go.Proofs.Ytefmlbckbhlgdaa
open Go.RowKit
set_option maxRecDepth 100000
abbrev z5 (k : IntKind) : Array Value := #[.int k 0, .int k 0, .int k 0, .int k 0, .int k 0]

/-- The blocks of a round: the state, by how much, where to, the answer, the two rows of five. -/
def KR (w : World) (A : NF) (turnsBy places : Nat → Nat) (C D : NF) (wr : World) : Prop :=
  RowAt wr w.heap.size (rV 25 .u64 A) 140 ∧ RowAt wr (w.heap.size + 1) (rV 25 .i64 (asI turnsBy)) 194 ∧ RowAt wr (w.heap.size + 1 + 1) (rV 25 .i64 (asI places)) 194 ∧ RowAt wr (w.heap.size + 1 + 1 + 1) (z25 .u64) 140 ∧
    RowAt wr (w.heap.size + 1 + 1 + 1 + 1) (rV 5 .u64 C) 224 ∧ RowAt wr (w.heap.size + 1 + 1 + 1 + 1 + 1) (rV 5 .u64 D) 224 ∧ Below w.heap.size w wr ∧ w.heap.size + 1 + 1 + 1 + 1 + 1 + 1 ≤ wr.heap.size
theorem KR.drew {w wr : World} {A C D : NF} {b p : Nat → Nat} (h : KR w A b p C D wr) : KR w A b p C D wr.drew := ⟨h.1, h.2.1, h.2.2.1, h.2.2.2.1, h.2.2.2.2.1, h.2.2.2.2.2.1, h.2.2.2.2.2.2.1.drew, h.2.2.2.2.2.2.2⟩
theorem KR.alloc {w wr : World} {A C D : NF} {b p : Nat → Nat} (h : KR w A b p C D wr) (o : Obj) : KR w A b p C D (wr.alloc o) :=
  ⟨h.1.alloc o, h.2.1.alloc o, h.2.2.1.alloc o, h.2.2.2.1.alloc o, h.2.2.2.2.1.alloc o, h.2.2.2.2.2.1.alloc o, h.2.2.2.2.2.2.1.alloc (by have := h.2.2.2.2.2.2.2; omega) o, by have := h.2.2.2.2.2.2.2; rw [World.size_alloc]; omega⟩
end Go.Proofs.Ytefmlbckbhlgdaa
namespace Go.Proofs.Ytefmlbckbhlgdaa
open Go.RowKit Go.Shelf
set_option maxRecDepth 100000
/-- Three fields in a block of the call's own. -/
theorem RowT.three {A : Nat → Prop} {w : World} {t1 t2 t3 : Fd} {s1 s2 s3 : Sl} {g : Nat} {cs : Array Value} {T : TypeId} (hg : w.heap[g]? = some (.cells cs T (0, 0))) (hcs : cs.toList = encFd.pre t1.val ++ [slV s1] ++ (encFd.pre t2.val ++ [slV s2]) ++ (encFd.pre t3.val ++ [slV s3])) (hA : A g) (h1 : RowT encFd A w (slV s1) t1.kids) (h2 : RowT encFd A w (slV s2) t2.kids) (h3 : RowT encFd A w (slV s3) t3.kids) :
    RowT encFd A w (.slice (some ⟨g, 0, none⟩) 3 3) [t1, t2, t3] := by
  refine ⟨[(t1.val, s1), (t2.val, s2), (t3.val, s3)], rfl, .inr ⟨⟨g, 0, none⟩, 3, rfl, Nat.le_refl _, by unfold maxLen; omega, fun j u hj => ?_⟩, fun _ ad n c e => by injection e with e _ _; injection e with e; subst e; exact hA, fun i t x e1 e2 => ?_⟩
  · have e : flat encFd.enc [(t1.val, s1), (t2.val, s2), (t3.val, s3)] = cs.toList := by rw [hcs]; rfl
    rw [e, Array.getElem?_toList] at hj
    have : w.cell? ⟨g, j, none⟩ = cs[j]? := cell_of_row w g j cs T _ hg
    rw [← hj, ← this]
    cases j <;> simp [Addr.add]
  · match i, e1, e2 with
    | 0, e1, e2 =>
      simp at e1 e2
      subst e1 e2
      cases t1 with
      | mk a ks => exact RowT.node a h1
    | 1, e1, e2 =>
      simp at e1 e2
      subst e1 e2
      cases t2 with
      | mk a ks => exact RowT.node a h2
    | 2, e1, e2 =>
      simp at e1 e2
      subst e1 e2
      cases t3 with
      | mk a ks => exact RowT.node a h3
    | i + 3, e1, e2 => simp at e1

end Go.Proofs.Ytefmlbckbhlgdaa
namespace Go.Proofs.Ytefmlbckbhlgdaa
open Go.RowKit Go.Shelf
def encI : Enc Int := ⟨1, fun n => [.int .i64 n], fun _ => rfl, fun x u h => by simp at h; subst h; rfl, by decide⟩
theorem info_int : (Try.prog.info? 3).map (fun i => (i.zero, i.size, i.bytes)) = some (some (.int .i64 0), 1, 8) := by kernel_rfl
def RI (w : World) (v : Value) (l : List Int) : Prop := RowE encI w v l
theorem RI.below {w w' : World} {v : Value} {l : List Int} {B : Nat} (h : RI w v l) (hb : Below B w w') (hB : w.heap.size ≤ B) : RI w' v l := RowE.below encI h hb hB
def OI (w : World) (base : Nat) (v : Value) (l : List Int) : Prop := OwnE encI 3 w base v l
theorem OI.below {w w' : World} {base B : Nat} {v : Value} {l : List Int} (h : OI w base v l) (hb : Below B w w') (hB : w.heap.size ≤ B) : OI w' base v l := OwnE.below encI h hb hB

theorem RI.at {w : World} {p : Option Addr} {n c : Nat} {l : List Int} (h : RI w (.slice p n c) l) : ∀ i x, l[i]? = some x → ∃ a, p = some a ∧ w.cell? (a.add i) = some (.int .i64 x) := by
  rcases h with ⟨_, rfl⟩ | ⟨a, cap, hv, h1, h2, hc⟩
  · intro i s hs; simp at hs
  · injection hv with e1 e2 e3
    subst e1 e2 e3
    refine fun i s hs => ⟨a, rfl, ?_⟩
    have := flat_get encI hs 0 (by decide)
    refine hc i _ ?_
    have e : i * encI.k + 0 = i := by show i * 1 + 0 = i; omega
    rw [e] at this
    rw [this]
    rfl

def DigOk (l : List Int) : Prop := ∀ x ∈ l, 0 ≤ x ∧ x < 65536
def nval : List Int → Int
  | [] => 0
  | x :: l => x + 65536 * nval l
def dg (l : List Int) (i : Nat) : Int := l.getD i 0
theorem dg_in {l : List Int} {i : Nat} (h : i < l.length) : dg l i = l[i] := by simp [dg, List.getD, List.getElem?_eq_getElem h]
theorem dg_out {l : List Int} {i : Nat} (h : l.length ≤ i) : dg l i = 0 := by simp [dg, List.getD, List.getElem?_eq_none h]
theorem dg_ok {l : List Int} (h : DigOk l) (i : Nat) : 0 ≤ dg l i ∧ dg l i < 65536 := by
  by_cases hi : i < l.length
  · rw [dg_in hi]; exact h _ (List.getElem_mem hi)
  · rw [dg_out (by omega)]; omega
theorem nval_drop (l : List Int) (i : Nat) : nval (l.drop i) = dg l i + 65536 * nval (l.drop (i + 1)) := by
  by_cases h : i < l.length
  · rw [List.drop_eq_getElem_cons h, nval, dg_in h]
  · rw [List.drop_eq_nil_of_le (by omega), List.drop_eq_nil_of_le (by omega), dg_out (by omega)]
    simp [nval]
theorem nval_up {a b : List Int} (ha : DigOk a) (hb : DigOk b) : ∀ i : Nat, nval (a.drop i) < nval (b.drop i) → nval a < nval b
  | 0, h => by simpa using h
  | i + 1, h => nval_up ha hb i (by
      rw [nval_drop a i, nval_drop b i]
      have := dg_ok ha i
      have := dg_ok hb i
      omega)

/-- The digits of a number. -/
def digAt (a : U4) (k : Nat) : Int := wordAt a (k / 4) / 2 ^ (16 * (k % 4)) % 65536
def ofL (a : U4) : List Int := (List.range 16).map (digAt a)
theorem ofL_length (a : U4) : (ofL a).length = 16 := by simp [ofL]
theorem digAt_ok (a : U4) (k : Nat) : 0 ≤ digAt a k ∧ digAt a k < 65536 := by
  unfold digAt
  omega
theorem ofL_ok (a : U4) : DigOk (ofL a) := fun x hx => by
  obtain ⟨k, _, rfl⟩ := List.mem_map.1 hx
  exact digAt_ok a k
theorem word_digits {x : Int} (h : WordOk x) : x / 1 % 65536 + 65536 * (x / 65536 % 65536) + 4294967296 * (x / 4294967296 % 65536) + 281474976710656 * (x / 281474976710656 % 65536) = x := by
  obtain ⟨h1, h2⟩ := h
  omega
theorem ofL_val {a : U4} (ha : a.ok) : nval (ofL a) = a.val := by
  obtain ⟨a0, a1, a2, a3⟩ := a
  obtain ⟨h0, h1, h2, h3⟩ := ha
  have e0 := word_digits h0
  have e1 := word_digits h1
  have e2 := word_digits h2
  have e3 := word_digits h3
  have r : List.range 16 = [0, 1, 2, 3, 4, 5, 6, 7, 8, 9, 10, 11, 12, 13, 14, 15] := rfl
  simp only [ofL, r, List.map_cons, List.map_nil, nval, digAt, wordAt, U4.val] at *
  simp only [Nat.reduceDiv, Nat.reduceMod, Nat.reduceMul, Int.reducePow] at *
  omega

set_option maxRecDepth 100000 in
set_option maxHeartbeats 2000000 in
theorem digit_any (v : Value) (l : List Int) (i : Nat) (w : World) (h : RI w v l) : Calls Try.prog 156 #[v, .int .i64 i] w fun e w' => e = .returned (.int .i64 (dg l i)) ∧ w = w' := by
  obtain ⟨p, c, rfl, h1, h2⟩ := RowE.shape encI h
  by_cases hi : i < l.length
  · obtain ⟨a, rfl, hc⟩ := RI.at h i l[i] (List.getElem?_eq_getElem hi)
    have e := dg_in hi
    generalize l[i] = x at *
    generalize dg l i = y at *
    subst e
    clear h
    go_enter Try.func156, Try.ntmps156
    go_wp2
    go_ret
    exact ⟨rfl, rfl⟩
  · have e := dg_out (show l.length ≤ i by omega)
    generalize dg l i = y at *
    subst e
    clear h
    go_enter Try.func156, Try.ntmps156
    go_wp2
    go_ret
    exact ⟨rfl, rfl⟩

set_option maxRecDepth 100000 in
set_option maxHeartbeats 2000000 in
theorem less_num (va vb : Value) (a b : List Int) (w : World) (hA : RI w va a) (hB : RI w vb b) (da : DigOk a) (db : DigOk b) (la : a.length ≤ 2000000) (lb : b.length ≤ 2000000) :
    Calls Try.prog 159 #[va, vb] w fun e w' => e = .returned (.bool (decide (nval a < nval b))) ∧ w = w' := by
  have KA := Lib.hid (fun i => digit_any va a i w hA)
  have KB := Lib.hid (fun i => digit_any vb b i w hB)
  obtain ⟨pa, ca, rfl, h1, h2⟩ := RowE.shape encI hA
  obtain ⟨pb, cb, rfl, h3, h4⟩ := RowE.shape encI hB
  have ND := Lib.hid (fun i => nval_drop a i)
  have NE := Lib.hid (fun i => nval_drop b i)
  have UP := Lib.hid (fun i => nval_up da db i)
  have DN := Lib.hid (fun i => nval_up db da i)
  have DA := Lib.hid (fun i => dg_ok da i)
  have DB := Lib.hid (fun i => dg_ok db i)
  clear hA hB da db
  have hst : nval (a.drop (max a.length b.length)) = nval (b.drop (max a.length b.length)) := by rw [List.drop_eq_nil_of_le (by omega), List.drop_eq_nil_of_le (by omega)]
  have HST := Lib.hid hst
  have hN1 : a.length ≤ max a.length b.length := by omega
  have hN2 : max a.length b.length ≤ 2000000 := by omega
  have hNN : (a.length < b.length → max a.length b.length = b.length) ∧ (¬ a.length < b.length → max a.length b.length = a.length) := by omega
  generalize max a.length b.length = N at *
  clear hst
  go_enter Try.func159, Try.ntmps159
  go_upto_if 12 with (fail)
  go_cut [5] (fun s wr => s = .int .i64 N ∧ w = wr)
  case first =>
    by_cases h : a.length < b.length
    · have hn := Lib.hid (hNN.1 h)
      have hq : (a.length : Int) < (b.length : Int) := by omega
      clear hNN h hN1 hN2
      go_wp2
      go_meet
      case rel => exact ⟨by rw [hn.out], rfl⟩
    · have hn := Lib.hid (hNN.2 h)
      have hq : ¬ (a.length : Int) < (b.length : Int) := by omega
      clear hNN h hN1 hN2
      go_wp2
      go_meet
      case rel => exact ⟨by rw [hn.out], rfl⟩
  case rest =>
    obtain ⟨rfl, rfl⟩ := hcut
    clear hNN
    go_wp2
    go_loop [6] (fun s => ∃ k : Nat, k ≤ N ∧ s = .int .i64 ((k : Int) - 1) ∧ Hid (nval (a.drop k) = nval (b.drop k))) (fun s => (intOf s + 1).toNat)
    case atStart => exact ⟨N, Nat.le_refl _, rfl, HST⟩
    case round =>
      obtain ⟨k, hk, rfl, he⟩ := hrel
      cases k with
      | zero =>
        have hno : Hid (decide (nval a < nval b) = false) := Lib.hid (by have := he.out; simp only [List.drop_zero] at this; simp; omega)
        clear he
        go_wp2
        go_ret
        exact ⟨by rw [hno.out]; rfl, rfl⟩
      | succ k =>
        have hi : ((k + 1 : Nat) : Int) - 1 = (k : Int) := by omega
        have ka := KA.out k
        have kb := KB.out k
        have h1 := he.out
        have h2 := ND.out k
        have h3 := NE.out k
        have h4 := UP.out k
        have h5 := DN.out k
        have h6 := DA.out k
        have h7 := DB.out k
        clear he
        generalize dg a k = x at *
        generalize dg b k = y at *
        by_cases e : x = y
        · have hn := Lib.hid (show nval (a.drop k) = nval (b.drop k) by omega)
          subst e
          have ka := Lib.hid ka
          have kb := Lib.hid kb
          clear h1 h2 h3 h4 h5 h6 h7
          go_wp2_with (go_at_call 156; first | (with_reducible refine ka.out.mono ?_; rintro e w1 ⟨rfl, rfl⟩) | (with_reducible refine kb.out.mono ?_; rintro e w1 ⟨rfl, rfl⟩))
          exact ⟨⟨k, by omega, by simp, hn⟩, by simp [intOf]⟩
        · have hv : Hid (decide (nval a < nval b) = decide (x < y)) := Lib.hid (by
            by_cases hxy : x < y
            · have := h4 (by omega)
              simp [this, hxy]
            · have := h5 (by omega)
              simp [hxy]
              omega)
          have ka := Lib.hid ka
          have kb := Lib.hid kb
          clear h1 h2 h3 h4 h5 h6 h7
          go_wp2_with (go_at_call 156; first | (with_reducible refine ka.out.mono ?_; rintro e w1 ⟨rfl, rfl⟩) | (with_reducible refine kb.out.mono ?_; rintro e w1 ⟨rfl, rfl⟩))
          go_ret
          exact ⟨by rw [hv.out]; rfl, rfl⟩
end Go.Proofs.Ytefmlbckbhlgdaa
namespace Go.Proofs.Ytefmlbckbhlgdaa
open Go.RowKit Go.Shelf
set_option maxRecDepth 100000 in
set_option maxHeartbeats 400000 in
theorem of_any (a : U4) (ha : a.ok) (w : World) : Calls Try.prog 157 #[u4V a] w fun e w' => ∃ v, e = .returned v ∧ RI w' v (ofL a) ∧ Below w.heap.size w w' := by
  have R1 := Lib.hid (RowAt.new w (u4c a) 66)
  have HB0 := Lib.hid (belowA w (.cells (u4c a) 66))
  have O := Lib.hid (show OI ((w.alloc (.cells (u4c a) 66)).alloc (.cells #[] 3)) (w.heap.size + 1) (.slice (some ⟨w.heap.size + 1, 0, none⟩) 0 0) [] from by
    have := OwnE.start encI (T := 3) (w := w.alloc (.cells (u4c a) 66)) (base := w.heap.size + 1) (by simp)
    rwa [show (w.alloc (.cells (u4c a) 66)).heap.size = w.heap.size + 1 by simp] at this)
  have HB1 := Lib.hid (show Below (w.heap.size + 1) (w.alloc (.cells (u4c a) 66)) ((w.alloc (.cells (u4c a) 66)).alloc (.cells #[] 3)) from (Below.refl _ _).alloc (by simp) _)
  have HW : Hid (∀ q, q < 4 → (u4c a)[q]? = some (.int .u64 (wordAt a q))) := Lib.hid (fun q hq => by
    have : q = 0 ∨ q = 1 ∨ q = 2 ∨ q = 3 := by omega
    rcases this with rfl | rfl | rfl | rfl <;> rfl)
  have HG : Hid (∀ q, 0 ≤ wordAt a q) := Lib.hid (fun q => by
    obtain ⟨h0, h1, h2, h3⟩ := ha
    unfold wordAt
    split
    · exact h0.1
    · exact h1.1
    · exact h2.1
    · exact h3.1)
  clear ha
  have HD : Hid (∀ k, digAt a k = wordAt a (k / 4) / 2 ^ (16 * (k % 4)) % 65536) := Lib.hid (fun k => rfl)
  have HL : Hid (∀ k, k < 16 → (ofL a).take (k + 1) = (ofL a).take k ++ [digAt a k]) := Lib.hid (fun k hk => by
    rw [List.take_add_one]
    simp [ofL, hk])
  have HE : Hid ((ofL a).take 16 = ofL a) := Lib.hid (List.take_of_length_le (by rw [ofL_length]; exact Nat.le_refl _))
  have HZ : Hid ((ofL a).take 0 = []) := Lib.hid rfl
  have HLL : Hid (∀ k, ((ofL a).take k).length ≤ 16) := Lib.hid (fun k => by rw [List.length_take, ofL_length]; omega)
  generalize digAt a = f at *
  generalize wordAt a = g at *
  generalize ofL a = L at *
  obtain ⟨a0, a1, a2, a3⟩ := a
  go_enter Try.func157, Try.ntmps157
  go_wp2
  have hs1 : (w.alloc (.cells (u4c (a0, a1, a2, a3)) 66)).heap.size = w.heap.size + 1 := by simp
  generalize w.alloc (.cells (u4c (a0, a1, a2, a3)) 66) = W1 at *
  have HS1 := Lib.hid hs1
  clear hs1
  go_loopw [3, 4] (fun s3 s4 wr => ∃ k : Nat, k ≤ 16 ∧ s4 = .int .i64 k ∧ Hid (OI wr (w.heap.size + 1) s3 (L.take k)) ∧ Hid (Below (w.heap.size + 1) W1 wr)) (fun _ s _ => (16 - intOf s).toNat)
  case atStart => exact ⟨0, by omega, rfl, Lib.hid (by rw [HZ.out]; exact O.out), HB1⟩
  case round =>
    clear O HB1 HZ
    obtain ⟨k, hk, rfl, ho, hb⟩ := hrel
    have O := Lib.hid ho.out
    have HB := Lib.hid hb.out
    clear ho hb
    by_cases hlt : k < 16
    · have hq : (k : Int).tdiv 4 = ((k / 4 : Nat) : Int) := by rw [Int.tdiv_eq_ediv_of_nonneg (by omega)]; omega
      have hr : (k : Int).tmod 4 = ((k % 4 : Nat) : Int) := by rw [Int.tmod_eq_emod_of_nonneg (by omega)]; omega
      have hx : wr.cell? ⟨w.heap.size, k / 4, none⟩ = some (.int .u64 (g (k / 4))) := by
        rw [(R1.out.below HB.out (by omega)).cell]; exact HW.out _ (by omega)
      have hd := HD.out k
      have hl := HL.out k hlt
      have hq4 : k / 4 < 4 := by omega
      have hr4 : k % 4 < 4 := by omega
      generalize k / 4 = q at *
      generalize k % 4 = r at *
      have hgq := HG.out q
      have hp : (0 : Int) < 2 ^ (16 * r) := Int.pow_pos (by decide)
      have hdiv : 0 ≤ g q / 2 ^ (16 * r) := Int.ediv_nonneg hgq (by omega)
      have h1 : (g q / 2 ^ (16 * r)).tmod 65536 = f k := by rw [Int.tmod_eq_emod_of_nonneg hdiv, hd]
      have hf : 0 ≤ f k ∧ f k < 65536 := by rw [hd]; omega
      have h2 : IntKind.i64.wrap (f k) = f k := by rw [IntKind.wrap_i64]; omega
      have HL1 := Lib.hid hl
      have hll := HLL.out k
      clear hd hgq hp hdiv hl
      generalize f k = y at *
      go_upto_region 4 with (at_builtin; refine wpList_append_rowE encI Try.underlying169 info_int rfl rfl _ _ rfl (w.heap.size + 1) _ (L.take k) rfl (O.out.below ((Below.refl _ _).alloc (Nat.le_refl _) _) (Nat.le_refl _)) _ [y] rfl (RowE.lit encI (RowAt.new wr #[.int .i64 y] _) y rfl) (by unfold maxLen; simp; omega) (by simp; omega) (by have := HB.out.size; have := HS1.out; simp; omega) ?_)
      intro v' w' ho hb _ _
      have HO := Lib.hid (show OI w' (w.heap.size + 1) v' (L.take (k + 1)) by rw [HL1.out]; exact ho)
      have HB2 := Lib.hid (hb _ (HB.out.alloc (by have := HB.out.size; have := HS1.out; omega) _))
      clear ho hb
      go_wp2
      exact ⟨⟨k + 1, by omega, by simp, HO, HB2⟩, by simp [intOf]; omega⟩
    · obtain rfl : k = 16 := by omega
      have O2 := O.out
      rw [HE.out] at O2
      have O2 := Lib.hid O2
      clear O
      go_wp2
      go_ret
      exact ⟨_, rfl, OwnE.row encI O2.out, HB0.out.trans (HB.out.mono (by have := HS1.out; omega))⟩

set_option maxRecDepth 100000 in
set_option maxHeartbeats 1000000 in
theorem sum_num (va vb : Value) (a b : List Int) (w : World) (hA : RI w va a) (hB : RI w vb b) (da : DigOk a) (db : DigOk b) (la : a.length ≤ 1000000) (lb : b.length ≤ 1000000) :
    Calls Try.prog 112 #[va, vb] w fun e w' => ∃ v l, e = .returned v ∧ RI w' v l ∧ DigOk l ∧ nval l = nval a + nval b ∧ l.length ≤ 1000001 ∧ Below w.heap.size w w' := by
  have KA := Lib.hid (fun i W (hb : Below w.heap.size w W) => digit_any va a i W (RI.below hA hb (Nat.le_refl _)))
  have KB := Lib.hid (fun i W (hb : Below w.heap.size w W) => digit_any vb b i W (RI.below hB hb (Nat.le_refl _)))
  obtain ⟨pa, ca, rfl, h1, h2⟩ := RowE.shape encI hA
  obtain ⟨pb, cb, rfl, h3, h4⟩ := RowE.shape encI hB
  have ND := Lib.hid (fun i => nval_drop a i)
  have NE := Lib.hid (fun i => nval_drop b i)
  have DA := Lib.hid (fun i => dg_ok da i)
  have DB := Lib.hid (fun i => dg_ok db i)
  have EA := Lib.hid (fun i (h : a.length ≤ i) => (show nval (a.drop i) = 0 ∧ dg a i = 0 from ⟨by rw [List.drop_eq_nil_of_le h]; rfl, dg_out h⟩))
  have EB := Lib.hid (fun i (h : b.length ≤ i) => (show nval (b.drop i) = 0 ∧ dg b i = 0 from ⟨by rw [List.drop_eq_nil_of_le h]; rfl, dg_out h⟩))
  clear hA hB da db
  have O := Lib.hid (show OI (w.alloc (.cells #[] 3)) w.heap.size (.slice (some ⟨w.heap.size, 0, none⟩) 0 0) [] from OwnE.start encI (Nat.le_refl _))
  have HB1 := Lib.hid (show Below w.heap.size w (w.alloc (.cells #[] 3)) from belowA w _)
  have HR0 : Hid (∀ R : List Int, nval R = 0 + nval (a.drop 0) + nval (b.drop 0) → nval ([] ++ R) = nval a + nval b) := Lib.hid (fun R h => by simpa using h)
  have HD0 : Hid (DigOk []) := Lib.hid (fun x h => by cases h)
  obtain ⟨N, hN1, hN2, hN3⟩ : ∃ N : Nat, a.length ≤ N ∧ b.length ≤ N ∧ N ≤ 1000000 ∧ (N = a.length ∨ N = b.length) := ⟨max a.length b.length, by omega, by omega, by omega, by omega⟩
  go_enter Try.func112, Try.ntmps112
  go_wp2
  go_loopw [5, 6, 7] (fun s5 s6 s7 wr => ∃ (k : Nat) (c : Int) (out : List Int), k ≤ N + 1 ∧ (N < k → c = 0) ∧ 0 ≤ c ∧ c ≤ 1 ∧ out.length = k ∧ s6 = .int .i64 c ∧ s7 = .int .i64 k ∧ Hid (OI wr w.heap.size s5 out) ∧ Hid (DigOk out) ∧ Hid (∀ R : List Int, nval R = c + nval (a.drop k) + nval (b.drop k) → nval (out ++ R) = nval a + nval b) ∧ Hid (Below w.heap.size w wr)) (fun _ _ s _ => (N + 1 : Int).toNat - (intOf s).toNat)
  case atStart => exact ⟨0, 0, [], by omega, by omega, by omega, by omega, rfl, rfl, rfl, O, HD0, HR0, HB1⟩
  case round =>
    clear O HB1 HR0 HD0
    obtain ⟨k, c, out, hk, hkc, hc0, hc1, hol, rfl, rfl, ho, hd, hr, hb⟩ := hrel
    have O := Lib.hid ho.out
    have HD := Lib.hid hd.out
    have HR := Lib.hid hr.out
    have HB := Lib.hid hb.out
    clear ho hd hr hb
    by_cases hgo : k < a.length ∨ k < b.length ∨ c = 1
    · have ka := Lib.hid (KA.out k wr HB.out)
      have kb := Lib.hid (KB.out k wr HB.out)
      have e1 := ND.out k
      have e2 := NE.out k
      have e3 := DA.out k
      have e4 := DB.out k
      have hNk : k ≤ N := by
        rcases hgo with h | h | h
        · omega
        · omega
        · by_cases hh : N < k
          · have := hkc hh; omega
          · omega
      have hlast : N ≤ k → dg a k = 0 ∧ dg b k = 0 := fun h => ⟨(EA.out k (by omega)).2, (EB.out k (by omega)).2⟩
      generalize dg a k = x at *
      generalize dg b k = y at *
      have q1 : IntKind.i64.wrap (x + y) = x + y := by rw [IntKind.wrap_i64]; omega
      have q2 : IntKind.i64.wrap (x + y + c) = x + y + c := by rw [IntKind.wrap_i64]; omega
      have q3 : (x + y + c).tmod 65536 = (x + y + c) % 65536 := Int.tmod_eq_emod_of_nonneg (by omega)
      have q4 : (x + y + c).tdiv 65536 = (x + y + c) / 65536 := Int.tdiv_eq_ediv_of_nonneg (by omega)
      have hcar : 0 ≤ (x + y + c) / 65536 ∧ (x + y + c) / 65536 ≤ 1 := by omega
      have hdg : 0 ≤ (x + y + c) % 65536 ∧ (x + y + c) % 65536 < 65536 := by omega
      have hsum : (x + y + c) % 65536 + 65536 * ((x + y + c) / 65536) = x + y + c := by omega
      have hlc : N < k + 1 → (x + y + c) / 65536 = 0 := fun h => by have := hlast (by omega); omega
      have HR2 : Hid (∀ R : List Int, nval R = (x + y + c) / 65536 + nval (a.drop (k + 1)) + nval (b.drop (k + 1)) → nval ((out ++ [(x + y + c) % 65536]) ++ R) = nval a + nval b) := Lib.hid (fun R h => by
        rw [List.append_assoc]
        refine HR.out _ ?_
        rw [List.singleton_append, nval]
        omega)
      have HD2 : Hid (DigOk (out ++ [(x + y + c) % 65536])) := Lib.hid (fun z hz => by
        rcases List.mem_append.1 hz with hz | hz
        · exact HD.out z hz
        · rw [List.mem_singleton] at hz
          subst hz
          exact hdg)
      generalize (x + y + c) % 65536 = d at *
      generalize (x + y + c) / 65536 = c' at *
      have HLC := Lib.hid hlc
      clear e1 e2 e3 e4 hlast hkc hsum hlc HR HD
      by_cases h1' : k < a.length
      rotate_left
      by_cases h2' : k < b.length
      rotate_left
      obtain rfl : c = 1 := by omega
      rotate_left
      all_goals
        clear hgo
        go_upto_region 8 with (first | (go_at_call 156; first | (with_reducible refine ka.out.mono ?_; rintro e w1 ⟨rfl, rfl⟩) | (with_reducible refine kb.out.mono ?_; rintro e w1 ⟨rfl, rfl⟩)) | (at_builtin; refine wpList_append_rowE encI Try.underlying169 info_int rfl rfl _ _ rfl w.heap.size _ out rfl (O.out.below ((Below.refl _ _).alloc (Nat.le_refl _) _) (Nat.le_refl _)) _ [d] rfl (RowE.lit encI (RowAt.new wr #[.int .i64 d] _) d rfl) (by unfold maxLen; simp; omega) (by simp; omega) (by have := HB.out.size; simp; omega) ?_))
        intro v' w' ho hb _ _
        have HO := Lib.hid (show OI w' w.heap.size v' (out ++ [d]) from ho)
        have HB2 := Lib.hid (hb _ (HB.out.alloc HB.out.size _))
        clear ho hb
        go_wp2
        exact ⟨⟨k + 1, c', out ++ [d], by omega, HLC.out, hcar.1, hcar.2, by simp [hol], rfl, by simp, HO, HD2, HR2, HB2⟩, by simp [intOf]; omega⟩
    · have h1' : ¬ k < a.length := by omega
      have h2' : ¬ k < b.length := by omega
      obtain rfl : c = 0 := by omega
      have hv := Lib.hid (HR.out [] (by rw [(EA.out k (by omega)).1, (EB.out k (by omega)).1]; rfl))
      rw [List.append_nil] at hv
      clear hgo
      go_wp2
      go_ret
      exact ⟨_, rfl, out, OwnE.row encI O.out, HD.out, hv.out, by omega, HB.out⟩
end Go.Proofs.Ytefmlbckbhlgdaa
namespace Go.Proofs.Ytefmlbckbhlgdaa
open Go.RowKit Go.Shelf
set_option maxRecDepth 100000 in
set_option maxHeartbeats 1000000 in
theorem rmodulus_any (w : World) : Calls Try.prog 158 #[.int .i64 1] w fun e w' => e = .returned (u4V oN) ∧ Below w.heap.size w w' := by
  have R := Lib.hid (RowAt.new w (u4c (0, 0, 0, 0)) 66)
  have HB := Lib.hid (belowA w (.cells (u4c (0, 0, 0, 0)) 66))
  obtain ⟨z0, z1, z2, z3, zf0, zf1, zf2, zf3⟩ := R.out.c4
  simp only at z0 z1 z2 z3
  go_enter Try.func158, Try.ntmps158
  go_wp2
  obtain ⟨k0, k1, k2, k3, _⟩ := (RowAt.new w (u4c oN) 66).c4
  simp only at k0 k1 k2 k3
  refine bodyPost_ret (v := u4V oN) (by simp [results, Try.results158, go_sem, k0, k1, k2, k3]) rfl ?_
  exact ⟨rfl, belowA w _⟩

theorem ofN_val : nval (ofL oN) = oN.val := ofL_val oN_ok

set_option maxRecDepth 100000 in
set_option maxHeartbeats 1000000 in
theorem isSecret_any (a : U4) (ha : a.ok) (w : World) : Calls Try.prog 115 #[u4V a] w fun e w' => e = .returned (.bool (betweenU a)) ∧ Below w.heap.size w w' := by
  have hz : a.val = 0 ↔ (a.1 = 0 ∧ a.2.1 = 0 ∧ a.2.2.1 = 0 ∧ a.2.2.2 = 0) := by
    obtain ⟨⟨x0, x0'⟩, ⟨x1, x1'⟩, ⟨x2, x2'⟩, ⟨x3, x3'⟩⟩ := ha
    unfold U4.val
    omega
  have KOA := Lib.hid (fun W => of_any a ha W)
  have KON := Lib.hid (fun W => of_any oN oN_ok W)
  have KL := Lib.hid (fun va vb W h1 h2 => less_num va vb (ofL a) (ofL oN) W h1 h2 (ofL_ok a) (ofL_ok oN) (by rw [ofL_length]; omega) (by rw [ofL_length]; omega))
  rw [ofL_val ha, ofN_val] at KL
  have R1 := Lib.hid (RowAt.new w (u4c a) 66)
  have HB := Lib.hid (belowA w (.cells (u4c a) 66))
  have hbt : betweenU a = (decide (a.val ≠ 0) && decide (a.val < oN.val)) := rfl
  have hq := fun w => eqU_run a (0, 0, 0, 0) w
  generalize hal : decide (a.val < oN.val) = lt at *
  obtain ⟨a0, a1, a2, a3⟩ := a
  simp only at hz hq
  generalize ofL (a0, a1, a2, a3) = La at *
  generalize ofL oN = Ln at *
  clear ha
  go_enter Try.func115, Try.ntmps115
  go_upto_region 2 with (first | (go_at_call 158; refine (rmodulus_any _).mono ?_; rintro e w1 ⟨rfl, hb⟩; (replace R1 := Lib.hid (R1.out.belowS hb); replace HB := Lib.hid (HB.out.trans (hb.mono HB.out.size)); clear hb)) | (go_at_call 157; refine (KON.out _).mono ?_; rintro e w2 ⟨vn, rfl, hn, hb⟩; (replace R1 := Lib.hid (R1.out.belowS hb); replace HB := Lib.hid (HB.out.trans (hb.mono HB.out.size)); clear hb); have HN := Lib.hid hn; clear hn))
  obtain ⟨x0, x1, x2, x3, xf0, xf1, xf2, xf3⟩ := R1.out.c4
  simp only at x0 x1 x2 x3
  by_cases e : a0 = 0 ∧ a1 = 0 ∧ a2 = 0 ∧ a3 = 0
  · have hv : Hid (betweenU (a0, a1, a2, a3) = false) := Lib.hid (by rw [hbt, hz.2 e]; rfl)
    rw [decide_eq_true e] at hq
    clear hz e hbt hal
    go_wp2
    go_ret
    exact ⟨by rw [hv.out]; rfl, HB.out⟩
  · have hv : Hid (betweenU (a0, a1, a2, a3) = lt) := Lib.hid (by
      rw [hbt, decide_eq_true (p := U4.val (a0, a1, a2, a3) ≠ 0) (fun h => e (hz.1 h)), Bool.true_and])
    rw [decide_eq_false e] at hq
    clear hz e hbt hal
    go_wp2_with (first | (go_at_call 157; refine (KOA.out _).mono ?_; rintro e w2 ⟨va, rfl, ha, hb⟩; (replace HN := Lib.hid (HN.out.below hb (Nat.le_refl _)); replace HB := Lib.hid (HB.out.trans (hb.mono HB.out.size)); clear hb); have HA := Lib.hid ha; clear ha) | (go_at_call 159; refine (KL.out _ _ _ HA.out HN.out).mono ?_; rintro e w3 ⟨rfl, rfl⟩))
    go_ret
    exact ⟨by rw [hv.out]; rfl, HB.out⟩

set_option maxRecDepth 100000 in
set_option maxHeartbeats 1000000 in
theorem rhigh_any (a : U4) (ha : a.ok) (w : World) : Calls Try.prog 116 #[u4V a] w fun e w' => e = .returned (.bool (highU a)) ∧ Below w.heap.size w w' := by
  have KOA := Lib.hid (fun W => of_any a ha W)
  have KON := Lib.hid (fun W => of_any oN oN_ok W)
  have KS := Lib.hid (fun va W h => sum_num va va (ofL a) (ofL a) W h h (ofL_ok a) (ofL_ok a) (by rw [ofL_length]; omega) (by rw [ofL_length]; omega))
  have KL := Lib.hid (fun va vb l W h1 h2 h3 (h4 : l.length ≤ 1000001) => less_num va vb (ofL oN) l W h1 h2 (ofL_ok oN) h3 (by rw [ofL_length]; omega) (Nat.le_trans h4 (by omega)))
  rw [ofL_val ha] at KS
  rw [ofN_val] at KL
  have R1 := Lib.hid (RowAt.new w (u4c a) 66)
  have HB := Lib.hid (belowA w (.cells (u4c a) 66))
  have hbt : highU a = decide (oN.val < 2 * a.val) := rfl
  have htw : a.val + a.val = 2 * a.val := by omega
  rw [htw] at KS
  have HV := Lib.hid hbt
  generalize 2 * a.val = tw at *
  obtain ⟨a0, a1, a2, a3⟩ := a
  generalize ofL (a0, a1, a2, a3) = La at *
  generalize ofL oN = Ln at *
  clear ha hbt htw
  go_enter Try.func116, Try.ntmps116
  go_upto_region 1 with (fail)
  obtain ⟨x0, x1, x2, x3, xf0, xf1, xf2, xf3⟩ := R1.out.c4
  simp only at x0 x1 x2 x3
  go_upto_region 2 with (go_at_call 157; refine (KOA.out _).mono ?_; rintro e w2 ⟨va, rfl, ha, hb⟩; (replace HB := Lib.hid (HB.out.trans (hb.mono HB.out.size)); clear hb); have HA := Lib.hid ha; clear ha)
  clear x0 x1 x2 x3 xf0 xf1 xf2 xf3
  go_wp2_with (first | (go_at_call 158; refine (rmodulus_any _).mono ?_; rintro e w3 ⟨rfl, hb⟩; (replace HA := Lib.hid (HA.out.below hb (Nat.le_refl _)); replace HB := Lib.hid (HB.out.trans (hb.mono HB.out.size)); clear hb)) | (go_at_call 157; refine (KON.out _).mono ?_; rintro e w4 ⟨vn, rfl, hn, hb⟩; (replace HA := Lib.hid (HA.out.below hb (Nat.le_refl _)); replace HB := Lib.hid (HB.out.trans (hb.mono HB.out.size)); clear hb); have HN := Lib.hid hn; clear hn) | (go_at_call 112; refine (KS.out _ _ HA.out).mono ?_; rintro e w5 ⟨vs, ls, rfl, hs, hsd, hsv, hsl, hb⟩; (replace HN := Lib.hid (HN.out.below hb (Nat.le_refl _)); replace HB := Lib.hid (HB.out.trans (hb.mono HB.out.size)); clear hb); have HS := Lib.hid hs; have HSD := Lib.hid hsd; have HSV := Lib.hid hsv; clear hs hsd hsv) | (go_at_call 159; refine (KL.out _ _ ls _ HN.out HS.out HSD.out hsl).mono ?_; rintro e w6 ⟨rfl, rfl⟩))
  go_ret
  exact ⟨by rw [HV.out, ← HSV.out]; rfl, HB.out⟩

theorem isSig_v (s : Sg) : sigOk s = (betweenU s.1 && (betweenU s.2.1 && (!highU s.2.1 && (decide (0 ≤ s.2.2) && decide (s.2.2 ≤ 1))))) := by
  unfold sigOk
  have : ((s.2.2 == 0) || (s.2.2 == 1)) = (decide (0 ≤ s.2.2) && decide (s.2.2 ≤ 1)) := by
    by_cases h0 : s.2.2 = 0
    · simp [h0]
    · by_cases h1 : s.2.2 = 1
      · simp [h1]
      · have : ¬ (0 ≤ s.2.2 ∧ s.2.2 ≤ 1) := by omega
        rw [← Bool.decide_and, decide_eq_false this]
        simp [h0, h1]
  rw [this]

set_option maxRecDepth 100000 in
set_option maxHeartbeats 4000000 in
theorem isSig_any (s : Sg) (hs : s.ok) (w : World) : Calls Try.prog 64 #[sgV s] w fun e w' => e = .returned (.bool (sigOk s)) ∧ Below w.heap.size w w' := by
  have hv := Lib.hid (isSig_v s)
  obtain ⟨⟨r0, r1, r2, r3⟩, ⟨s0, s1, s2, s3⟩, v⟩ := s
  have K1 := fun W => isSecret_any (r0, r1, r2, r3) hs.1 W
  have K2 := fun W => isSecret_any (s0, s1, s2, s3) hs.2 W
  have K3 := fun W => rhigh_any (s0, s1, s2, s3) hs.2 W
  have R := Lib.hid (RowAt.new w (sgc ((r0, r1, r2, r3), (s0, s1, s2, s3), v)) 68)
  have HB := Lib.hid (belowA w (.cells (sgc ((r0, r1, r2, r3), (s0, s1, s2, s3), v)) 68))
  generalize sigOk ((r0, r1, r2, r3), (s0, s1, s2, s3), v) = Z at *
  generalize betweenU (r0, r1, r2, r3) = b1 at *
  generalize betweenU (s0, s1, s2, s3) = b2 at *
  generalize highU (s0, s1, s2, s3) = b3 at *
  cases b1 <;> cases b2 <;> cases b3
  all_goals
    have K1 := Lib.hid K1
    have K2 := Lib.hid K2
    have K3 := Lib.hid K3
    clear hs
    go_enter Try.func64, Try.ntmps64
    go_upto_region 1 with (fail)
    obtain ⟨x0, x1, x2, x3, x4, x5, x6, x7, x8⟩ := R.out.c9
    simp only at x0 x1 x2 x3 x4 x5 x6 x7 x8
    go_wp2_with (first
      | (go_at_call_of 115 (Value.int .u64 r3); refine (K1.out _).mono ?_; rintro e w1 ⟨rfl, hb⟩; (replace R := Lib.hid (R.out.belowS hb); replace HB := Lib.hid (HB.out.trans (hb.mono HB.out.size)); clear hb); clear x0 x1 x2 x3 x4 x5 x6 x7 x8; obtain ⟨x0, x1, x2, x3, x4, x5, x6, x7, x8⟩ := R.out.c9; simp only at x0 x1 x2 x3 x4 x5 x6 x7 x8)
      | (go_at_call 115; refine (K2.out _).mono ?_; rintro e w1 ⟨rfl, hb⟩; (replace R := Lib.hid (R.out.belowS hb); replace HB := Lib.hid (HB.out.trans (hb.mono HB.out.size)); clear hb); clear x0 x1 x2 x3 x4 x5 x6 x7 x8; obtain ⟨x0, x1, x2, x3, x4, x5, x6, x7, x8⟩ := R.out.c9; simp only at x0 x1 x2 x3 x4 x5 x6 x7 x8)
      | (go_at_call 116; refine (K3.out _).mono ?_; rintro e w1 ⟨rfl, hb⟩; (replace R := Lib.hid (R.out.belowS hb); replace HB := Lib.hid (HB.out.trans (hb.mono HB.out.size)); clear hb); clear x0 x1 x2 x3 x4 x5 x6 x7 x8; obtain ⟨x0, x1, x2, x3, x4, x5, x6, x7, x8⟩ := R.out.c9; simp only at x0 x1 x2 x3 x4 x5 x6 x7 x8))
    all_goals
      go_ret
      exact ⟨by rw [hv.out]; first | rfl | (simp; done) | (simp; omega), HB.out⟩
end Go.Proofs.Ytefmlbckbhlgdaa
namespace Go.Proofs.Ytefmlbckbhlgdaa
open Go.RowKit Go.Shelf
theorem size_nil {s : ByteArray} : s.size = 0 ↔ s = ⟨#[]⟩ := by
  constructor
  · intro h
    apply bl_inj
    have : (bl s).length = 0 := by rw [bl_length, h]
    rw [List.eq_nil_of_length_eq_zero this]
    rfl
  · rintro rfl
    rfl

set_option maxRecDepth 100000 in
set_option maxHeartbeats 4000000 in
theorem rhRight_any (h : Hd) (sv gv : Value) (w : World) (hh : HdAt w h sv gv) (hl : h.val.length ≤ 1000000) : Calls Try.prog 29 #[hdV h sv gv] w fun e w' => e = .returned (.bool (hdL h)) ∧ Below w.heap.size w w' := by
  obtain ⟨hS, hG, hok⟩ := hh
  have KA := fun W hW => rset_any sv h.val W hW hl
  have HS := Lib.hid hS
  have HG := Lib.hid hG
  have HOK := Lib.hid hok
  obtain ⟨pS, cS, rfl, s1, s2⟩ := RowE.shape encS hS
  obtain ⟨pG, cG, rfl, s3, s4⟩ := RowE.shape encG hG
  clear hS hG hok
  have hyes : HdOk h → hdL h = true := hdL_true
  have hno : ¬ HdOk h → hdL h = false := hdL_false
  have hdef : HdOk h ↔ (h.pa.size = 32 ∧ h.ro.size = 32 ∧ h.tx.size = 32 ∧ h.pr.size = 20 ∧ h.va.size ≤ 8 ∧ SetOk h.val ∧ h.se.length ≤ 16 ∧ (h.vo.size = 20 ∨ (h.vo = ⟨#[]⟩ ∧ h.ad = false)) ∧ ∀ s ∈ h.se, sigOk s = true) := Iff.rfl
  generalize hdL h = R at *
  generalize HdOk h = Ok at *
  obtain ⟨pa, ht, ro, tx, pr, va, val, vo, ad, rd, se⟩ := h
  simp only at hdef s1 s3 hl HS HG KA HOK
  unfold maxLen at s2 s4
  have R1 := Lib.hid (RowAt.new w (hdc ⟨pa, ht, ro, tx, pr, va, val, vo, ad, rd, se⟩ (.slice pS val.length cS) (.slice pG se.length cG)) 26)
  have HB := Lib.hid (belowA w (.cells (hdc ⟨pa, ht, ro, tx, pr, va, val, vo, ad, rd, se⟩ (.slice pS val.length cS) (.slice pG se.length cG)) 26))
  have HY := Lib.hid hyes
  have HN := Lib.hid hno
  have HD := Lib.hid hdef
  clear hyes hno hdef
  go_enter Try.func29, Try.ntmps29
  go_upto_region 1 with (fail)
  generalize (w.alloc (.cells (hdc ⟨pa, ht, ro, tx, pr, va, val, vo, ad, rd, se⟩ (.slice pS val.length cS) (.slice pG se.length cG)) 26)) = W at *
  obtain ⟨x0, x1, x2, x3, x4, x5, x6, x7, x8, x9, x10⟩ := R1.out.c11
  simp only at x0 x1 x2 x3 x4 x5 x6 x7 x8 x9 x10
  have KA2 := KA W (RowE.below encS HS.out HB.out (Nat.le_refl _))
  clear KA
  by_cases c1 : pa.size = 32
  · have q1 : ((pa.size : Int) != 32) = false := by first | omega | (simp; omega)
    by_cases c2 : ro.size = 32
    · have q2 : ((ro.size : Int) != 32) = false := by first | omega | (simp; omega)
      by_cases c3 : tx.size = 32
      · have q3 : ((tx.size : Int) != 32) = false := by first | omega | (simp; omega)
        by_cases c4 : pr.size = 20
        · have q4 : ((pr.size : Int) != 20) = false := by first | omega | (simp; omega)
          by_cases c5 : va.size ≤ 8
          · have q5 : ¬ (va.size : Int) > 8 := by first | omega | (simp; omega)
            by_cases c6 : SetOk val
            · rw [setL_true c6] at KA2
              have KA2 := Lib.hid KA2
              have HD3 := Lib.hid (show Ok ↔ (se.length ≤ 16 ∧ (vo.size = 20 ∨ (vo = ⟨#[]⟩ ∧ ad = false)) ∧ ∀ s ∈ se, sigOk s = true) from ⟨fun h => (HD.out.1 h).2.2.2.2.2.2, fun h => HD.out.2 ⟨c1, c2, c3, c4, c5, c6, h⟩⟩)
              clear c1 c2 c3 c4 c5 c6 HD
              go_upto_region 3 with (go_at_call 65; refine KA2.out.mono ?_; rintro e w1 ⟨rfl, rfl⟩)
              clear q1 q2 q3 q4 q5 KA2
              have hvo : (vo.size = 20 ∨ (vo = ⟨#[]⟩ ∧ ad = false)) ∨ (¬ vo.size = 20 ∧ ¬ vo = ⟨#[]⟩) ∨ (vo = ⟨#[]⟩ ∧ ad = true) := by
                by_cases e1 : vo.size = 20
                · exact .inl (.inl e1)
                · by_cases e2 : vo = ⟨#[]⟩
                  · cases ad
                    · exact .inl (.inr ⟨e2, rfl⟩)
                    · exact .inr (.inr ⟨e2, rfl⟩)
                  · exact .inr (.inl ⟨e1, e2⟩)
              rcases hvo with hvo | ⟨e1, e2⟩ | ⟨rfl, rfl⟩
              · by_cases c7 : se.length ≤ 16
                · have HD4 := Lib.hid (show Ok ↔ ∀ s ∈ se, sigOk s = true from ⟨fun h => (HD3.out.1 h).2.2, fun h => HD3.out.2 ⟨c7, hvo, h⟩⟩)
                  have q7 : ¬ (se.length : Int) > 16 := by omega
                  clear HD3 c7
                  go_cut [63] (fun t wr => t = .bool false ∧ W = wr)
                  case first =>
                    rcases hvo with e | ⟨rfl, rfl⟩
                    · have q5 : ((vo.size : Int) != 20) = false := by simp [e]
                      have q4 : ((vo.size : Int) != 0) = true := bne_iff_ne.2 (by omega)
                      have q6 : ¬ vo.toList = [] := by
                        have : ¬ vo = ⟨#[]⟩ := fun h => by have := size_nil.2 h; omega
                        simpa using seq_false this
                      clear e
                      go_wp2_with (fail)
                      go_meet
                      case rel => exact ⟨rfl, rfl⟩
                    · go_wp2_with (fail)
                      go_meet
                      case rel => exact ⟨rfl, rfl⟩
                  case rest =>
                  obtain ⟨rfl, rfl⟩ := hcut
                  clear hvo
                  go_upto_region 6 with (fail)
                  clear x0 x1 x2 x3 x4 x5 x6 x7 x8 x9 x10
                  go_loopw [67] (fun c wr => ∃ k : Nat, k ≤ se.length ∧ c = .int .i64 k ∧ Hid (∀ j s, j < k → se[j]? = some s → sigOk s = true) ∧ Hid (Below w.heap.size w wr)) (fun c _ => se.length - (intOf c).toNat)
                  case atStart => exact ⟨0, Nat.zero_le _, rfl, Lib.hid (fun _ _ h => by omega), HB⟩
                  case round =>
                    obtain ⟨k, hk, rfl, hto, hb⟩ := hrel
                    clear HB
                    have HB := Lib.hid hb.out
                    clear hb
                    by_cases hlt : k < se.length
                    · have hg := List.getElem?_eq_getElem hlt
                      obtain ⟨a, rfl, hc⟩ := (RowE.below encG HG.out HB.out (Nat.le_refl _)).atG k se[k] hg
                      have hsk := HOK.out se[k] (List.getElem_mem hlt)
                      generalize se[k] = s at *
                      obtain ⟨⟨r0, r1, r2, r3⟩, ⟨s0, s1, s2, s3⟩, v⟩ := s
                      have c0 := hc 0 _ rfl
                      have c1 := hc 1 _ rfl
                      have c2 := hc 2 _ rfl
                      have c3 := hc 3 _ rfl
                      have c4 := hc 4 _ rfl
                      have c5 := hc 5 _ rfl
                      have c6 := hc 6 _ rfl
                      have c7 := hc 7 _ rfl
                      have c8 := hc 8 _ rfl
                      clear hc
                      replace c0 : wr.cell? (a.add (k * 9)) = _ := c0
                      replace c1 : wr.cell? ⟨(a.add (k * 9)).block, (a.add (k * 9)).off + 1, none⟩ = _ := c1
                      replace c2 : wr.cell? ⟨(a.add (k * 9)).block, (a.add (k * 9)).off + 2, none⟩ = _ := c2
                      replace c3 : wr.cell? ⟨(a.add (k * 9)).block, (a.add (k * 9)).off + 3, none⟩ = _ := c3
                      replace c4 : wr.cell? ⟨(a.add (k * 9)).block, (a.add (k * 9)).off + 4, none⟩ = _ := c4
                      replace c5 : wr.cell? ⟨(a.add (k * 9)).block, (a.add (k * 9)).off + 5, none⟩ = _ := c5
                      replace c6 : wr.cell? ⟨(a.add (k * 9)).block, (a.add (k * 9)).off + 6, none⟩ = _ := c6
                      replace c7 : wr.cell? ⟨(a.add (k * 9)).block, (a.add (k * 9)).off + 7, none⟩ = _ := c7
                      replace c8 : wr.cell? ⟨(a.add (k * 9)).block, (a.add (k * 9)).off + 8, none⟩ = _ := c8
                      try simp only at c0 c1 c2 c3 c4 c5 c6 c7 c8
                      have KS := isSig_any ((r0, r1, r2, r3), (s0, s1, s2, s3), v) hsk (wr.alloc (.cells (sgc ((r0, r1, r2, r3), (s0, s1, s2, s3), v)) 68))
                      have RS4 := Lib.hid (RowAt.new wr (sgc ((r0, r1, r2, r3), (s0, s1, s2, s3), v)) 68)
                      have HB2 := Lib.hid (HB.out.alloc HB.out.size (.cells (sgc ((r0, r1, r2, r3), (s0, s1, s2, s3), v)) 68))
                      cases e : sigOk ((r0, r1, r2, r3), (s0, s1, s2, s3), v)
                      · rw [e] at KS
                        have KS := Lib.hid KS
                        have hr := HN.out (fun h => by have := HD4.out.1 h _ (List.mem_of_getElem? hg); rw [e] at this; cases this)
                        clear hg e hsk
                        go_wp2_with (go_at_call 64; refine KS.out.mono ?_; rintro e w3 ⟨rfl, hb⟩; have HB3 := Lib.hid (HB2.out.trans (hb.mono HB2.out.size)); clear hb)
                        go_ret
                        exact ⟨by first | rfl | (rw [hr]; rfl), HB3.out⟩
                      · rw [e] at KS
                        have KS := Lib.hid KS
                        have hn : Hid (∀ j s, j < k + 1 → se[j]? = some s → sigOk s = true) := Lib.hid (fun j s hj hs => by
                          by_cases e2 : j = k
                          · subst e2; rw [hg] at hs; injection hs with hs; subst hs; exact e
                          · exact hto.out j s (by omega) hs)
                        clear hg e hsk hto
                        go_wp2_with (go_at_call 64; refine KS.out.mono ?_; rintro e w3 ⟨rfl, hb⟩; have HB3 := Lib.hid (HB2.out.trans (hb.mono HB2.out.size)); clear hb)
                        exact ⟨⟨k + 1, by omega, by simp, hn, HB3⟩, by simp [intOf]; omega⟩
                    · obtain rfl : k = se.length := by omega
                      have hr := HY.out (HD4.out.2 (fun s hs => by
                        obtain ⟨j, hj⟩ := List.getElem?_of_mem hs
                        exact hto.out j s (List.getElem?_eq_some_iff.1 hj).1 hj))
                      clear hto
                      go_wp2_with (fail)
                      go_ret
                      exact ⟨by first | rfl | (rw [hr]; rfl), HB.out⟩
                · have hr := HN.out (fun h => c7 (HD3.out.1 h).1)
                  have q7 : (se.length : Int) > 16 := by omega
                  clear c7 HD3
                  rcases hvo with e | ⟨rfl, rfl⟩
                  · have q5 : ((vo.size : Int) != 20) = false := by simp [e]
                    have q4 : ((vo.size : Int) != 0) = true := bne_iff_ne.2 (by omega)
                    have q6 : ¬ vo.toList = [] := by
                      have : ¬ vo = ⟨#[]⟩ := fun h => by have := size_nil.2 h; omega
                      simpa using seq_false this
                    clear e
                    go_wp2_with (fail)
                    go_ret
                    exact ⟨by first | rfl | (rw [hr]; rfl), HB.out⟩
                  · go_wp2_with (fail)
                    go_ret
                    exact ⟨by first | rfl | (rw [hr]; rfl), HB.out⟩
              · have hr := HN.out (fun h => by rcases (HD3.out.1 h).2.1 with h | ⟨h, _⟩; exact e1 h; exact e2 h)
                have q5 : ((vo.size : Int) != 20) = true := by simp; omega
                have q4 : ((vo.size : Int) != 0) = true := by
                  have : ¬ vo.size = 0 := fun h => e2 (size_nil.1 h)
                  exact bne_iff_ne.2 (by omega)
                clear e1 e2 HD3
                go_wp2_with (fail)
                go_ret
                exact ⟨by first | rfl | (rw [hr]; rfl), HB.out⟩
              · have hr := HN.out (fun h => by rcases (HD3.out.1 h).2.1 with h | ⟨_, h⟩; cases h; cases h)
                clear HD3
                go_wp2_with (fail)
                go_ret
                exact ⟨by first | rfl | (rw [hr]; rfl), HB.out⟩
            · rw [setL_false c6] at KA2
              have KA2 := Lib.hid KA2
              have hr := HN.out (fun h => c6 (by have h := HD.out.1 h; exact h.2.2.2.2.2.1))
              clear c1 c2 c3 c4 c5 c6 HD
              go_wp2_with (go_at_call 65; refine KA2.out.mono ?_; rintro e w1 ⟨rfl, rfl⟩)
              go_ret
              exact ⟨by first | rfl | (rw [hr]; rfl), HB.out⟩
          · have q5 : (va.size : Int) > 8 := by first | omega | (simp; omega)
            have hr := HN.out (fun h => c5 (by have h := HD.out.1 h; exact h.2.2.2.2.1))
            clear c1 c2 c3 c4 c5 HD KA2
            go_wp2_with (fail)
            go_ret
            exact ⟨by first | rfl | (rw [hr]; rfl), HB.out⟩
        · have q4 : ((pr.size : Int) != 20) = true := by first | omega | (simp; omega)
          have hr := HN.out (fun h => c4 (by have h := HD.out.1 h; exact h.2.2.2.1))
          clear c1 c2 c3 c4 HD KA2
          go_wp2_with (fail)
          go_ret
          exact ⟨by first | rfl | (rw [hr]; rfl), HB.out⟩
      · have q3 : ((tx.size : Int) != 32) = true := by first | omega | (simp; omega)
        have hr := HN.out (fun h => c3 (by have h := HD.out.1 h; exact h.2.2.1))
        clear c1 c2 c3 HD KA2
        go_wp2_with (fail)
        go_ret
        exact ⟨by first | rfl | (rw [hr]; rfl), HB.out⟩
    · have q2 : ((ro.size : Int) != 32) = true := by first | omega | (simp; omega)
      have hr := HN.out (fun h => c2 (by have h := HD.out.1 h; exact h.2.1))
      clear c1 c2 HD KA2
      go_wp2_with (fail)
      go_ret
      exact ⟨by first | rfl | (rw [hr]; rfl), HB.out⟩
  · have q1 : ((pa.size : Int) != 32) = true := by first | omega | (simp; omega)
    have hr := HN.out (fun h => c1 (by have h := HD.out.1 h; exact h.1))
    clear c1 HD KA2
    go_wp2_with (fail)
    go_ret
    exact ⟨by first | rfl | (rw [hr]; rfl), HB.out⟩
end Go.Proofs.Ytefmlbckbhlgdaa
namespace Go.Proofs.Ytefmlbckbhlgdaa
open Go.RowKit
end Go.Proofs.Ytefmlbckbhlgdaa
namespace Go.Proofs.Ytefmlbckbhlgdaa
open Go.RowKit
set_option maxRecDepth 100000
end Go.Proofs.Ytefmlbckbhlgdaa
namespace Go.Proofs.Ytefmlbckbhlgdaa
open Go.RowKit
set_option maxRecDepth 100000
/-- The blocks of the reference's round: the state, the answer, the row of five. -/
def KQ (w : World) (A C : NF) (wr : World) : Prop :=
  RowAt wr w.heap.size (rV 25 .u64 A) 140 ∧ RowAt wr (w.heap.size + 1) (z25 .u64) 140 ∧ RowAt wr (w.heap.size + 1 + 1) (rV 5 .u64 C) 224 ∧ Below w.heap.size w wr ∧ w.heap.size + 1 + 1 + 1 ≤ wr.heap.size
theorem KQ.drew {w wr : World} {A C : NF} (h : KQ w A C wr) : KQ w A C wr.drew := ⟨h.1, h.2.1, h.2.2.1, h.2.2.2.1.drew, h.2.2.2.2⟩
theorem KQ.put {w wr : World} {A C : NF} (h : KQ w A C wr) {g i : Nat} (hg : w.heap.size + 1 + 1 + 1 ≤ g) (v : Value) : KQ w A C (wr.setCell ⟨g, i, none⟩ v) :=
  ⟨h.1.other _ _ (by dsimp only; omega), h.2.1.other _ _ (by dsimp only; omega), h.2.2.1.other _ _ (by dsimp only; omega), h.2.2.2.1.setCell (by dsimp only; omega) _, by rw [World.size_setCell]; exact h.2.2.2.2⟩
theorem KQ.alloc {w wr : World} {A C : NF} (h : KQ w A C wr) (o : Obj) : KQ w A C (wr.alloc o) :=
  ⟨h.1.alloc o, h.2.1.alloc o, h.2.2.1.alloc o, h.2.2.2.1.alloc (by have := h.2.2.2.2; omega) o, by have := h.2.2.2.2; rw [World.size_alloc]; omega⟩
end Go.Proofs.Ytefmlbckbhlgdaa
namespace Go.Proofs.Ytefmlbckbhlgdaa
open Go.RowKit
set_option maxRecDepth 100000
/-! ### Bytes out of a string, grown -/
/-- The slice 'v' holds the bytes 'l' in a block from 'base' on; what is behind them, up to the capacity, may be written. -/
def BB (w : World) (base : Nat) (v : Value) (l : List UInt8) : Prop :=
  ∃ g cap, v = .slice (some ⟨g, 0, none⟩) l.length cap ∧ base ≤ g ∧ g < w.heap.size ∧ l.length ≤ cap ∧ cap ≤ maxLen ∧ (∀ j, j < l.length → w.cell? ⟨g, j, none⟩ = some (.int .u8 ((l.getD j 0).toNat : Int))) ∧
    (∀ j, j < cap → (w.cell? ⟨g, j, none⟩).isSome = true) ∧ (∀ j, j < cap → w.frozen? ⟨g, j, none⟩ = false)
theorem BB.below {w w' : World} {base B : Nat} {v : Value} {l : List UInt8} (h : BB w base v l) (hb : Below B w w') (hB : w.heap.size ≤ B) : BB w' base v l := by
  obtain ⟨g, cap, e, h1, h2, h3, h4, h5, h6, h7⟩ := h
  have hg := hb.block g (by omega)
  refine ⟨g, cap, e, h1, by have := hb.size; omega, h3, h4, fun j hj => ?_, fun j hj => ?_, fun j hj => ?_⟩
  · rw [World.cell?_of_block (w := w) (w' := w') (a := ⟨g, j, none⟩) hg]; exact h5 j hj
  · rw [World.cell?_of_block (w := w) (w' := w') (a := ⟨g, j, none⟩) hg]; exact h6 j hj
  · rw [World.frozen?_of_block (w := w) (w' := w') (a := ⟨g, j, none⟩) hg]; exact h7 j hj
theorem BB.set {w : World} {base g cap : Nat} {l : List UInt8} (h : BB w base (.slice (some ⟨g, 0, none⟩) l.length cap) l) (i : Nat) (hi : i < l.length) (b : UInt8) {v : Int} (hv : v = (b.toNat : Int)) :
    BB (w.setCell ⟨g, i, none⟩ (.int .u8 v)) base (.slice (some ⟨g, 0, none⟩) l.length cap) (l.set i b) := by
  subst hv
  obtain ⟨g', cap', e, h1, h2, h3, h4, h5, h6, h7⟩ := h
  injection e with e1 e2 e3
  injection e1 with e1
  injection e1 with e1 _ _
  subst e1 e3
  refine ⟨g, cap, by rw [List.length_set], h1, by rw [World.size_setCell]; exact h2, by rw [List.length_set]; exact h3, h4, fun j hj => ?_, fun j hj => ?_, fun j hj => ?_⟩
  · rw [List.length_set] at hj
    by_cases e : i = j
    · subst e
      have := World.cell?_setCells_in g [.int .u8 (b.toNat : Int)] i w (fun k hk => by simp at hk; subst hk; exact h6 i (by omega)) 0 (by simp)
      simp only [World.setCells, Nat.add_zero] at this
      rw [this]
      simp [List.getD, hi]
    · have := World.cell?_setCells_out g [.int .u8 (b.toNat : Int)] i w ⟨g, j, none⟩ (fun _ _ => by simp; omega)
      simp only [World.setCells] at this
      rw [this, h5 j hj]
      simp [List.getD, e]
  · by_cases e : i = j
    · subst e
      have := World.cell?_setCells_in g [.int .u8 (b.toNat : Int)] i w (fun k hk => by simp at hk; subst hk; exact h6 i hj) 0 (by simp)
      simp only [World.setCells, Nat.add_zero] at this
      rw [this]
      rfl
    · have := World.cell?_setCells_out g [.int .u8 (b.toNat : Int)] i w ⟨g, j, none⟩ (fun _ _ => by simp; omega)
      simp only [World.setCells] at this
      rw [this]
      exact h6 j hj
  · rw [World.frozen?_setCell]
    exact h7 j hj
theorem BB.conv {w : World} {base : Nat} {g cap : Nat} {l : List UInt8} (h : BB w base (.slice (some ⟨g, 0, none⟩) l.length cap) l) (lo n c : Nat) (hn : lo + n ≤ l.length) :
    (convert 123 9 (.slice (some ⟨g, lo, none⟩) n c)).run Try.prog w = .ok (.string (mkS ((l.drop lo).take n))) w := by
  obtain ⟨g', cap', e, h1, h2, h3, h4, h5, h6, h7⟩ := h
  injection e with e1 e2 e3
  injection e1 with e1
  injection e1 with e1 _ _
  subst e1 e3
  have hl : ((l.drop lo).take n).length = n := by simp; omega
  have := run_convert_bytes_back w 123 9 5 ⟨g, lo, none⟩ c ((l.drop lo).take n) Try.underlying123 Try.underlying5 Try.underlying9 (fun j hj => by
    have hjn : j < n := by omega
    rw [Addr.add_lit, h5 (lo + j) (by omega)]
    simp [List.getD, List.getElem?_eq_getElem (show lo + j < l.length by omega)])
  rw [hl] at this
  exact this
end Go.Proofs.Ytefmlbckbhlgdaa
namespace Go.Proofs.Ytefmlbckbhlgdaa
open Go.RowKit
set_option maxRecDepth 100000
end Go.Proofs.Ytefmlbckbhlgdaa
