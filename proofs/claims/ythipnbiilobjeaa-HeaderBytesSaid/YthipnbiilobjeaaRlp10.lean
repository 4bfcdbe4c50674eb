/- Rlp: the queue grows; the contract of well. Rlp: the contract of well. Rlp: the contract of the reference's Many. -/
import Derived.Test.YthipnbiilobjeaaRlp5
import Derived.Deep.SlicePairs
namespace Go.Proofs.Ythipnbiilobjeaa
open Go.RowKit
set_option maxRecDepth 100000

/-- The call's own row of items. -/
def OwnQ (w : World) (base : Nat) (v : Value) (l : List IV) : Prop := w.ownsRow base 65 3 v l.length (flat3 l)

theorem info_item : ∃ i, Try.prog.info? 65 = some i ∧ i.zero = some (.agg #[.bool false, .string ⟨#[]⟩, .slice none 0 0]) ∧ i.size = 3 ∧ i.bytes = 48 := by
  refine ⟨_, rfl, ?_, ?_, ?_⟩ <;> kernel_rfl

theorem OwnQ.below {w w' : World} {base B : Nat} {v : Value} {l : List IV} (h : OwnQ w base v l) (hb : Below B w w') (hB : w.heap.size ≤ B) : OwnQ w' base v l := by
  refine ⟨h.1, ?_⟩
  rcases h.2 with h' | ⟨g, cap, cur, hv, hg, hc, r⟩
  · exact .inl h'
  · have hlt : g < w.heap.size := by
      rcases Nat.lt_or_ge g w.heap.size with h | h
      · exact h
      · rw [Array.getElem?_eq_none h] at hc; cases hc
    exact .inr ⟨g, cap, cur, hv, hg, by rw [hb.block g (by omega)]; exact hc, r⟩

theorem wpList_append_kids {ops : Array Oper} {rest : List Oper} {o : Oper} {a : Act} {Q : Exit → Act → World → Prop} {w : World} (hgd : o.guard = Option.none) (s x : Operand)
    (ho : o.op = .call { callee := .builtin .append, args := #[s, x], argTypes := #[63, 63] }) (base : Nat) (v : Value) (l : List IV) (hs : a.eval s = v) (hown : OwnQ w base v l)
    (w0 : World) (ks : List It) (kv : Value) (hx : a.eval x = kv) (hk : KidsIs w0 ks kv) (hbl : Below w0.heap.size w0 w)
    (hb : l.length + ks.length ≤ 100000) (hbase : base ≤ w.heap.size)
    (h : ∀ v' w' lk, OwnQ w' base v' (l ++ lk) → QIs w0 ks lk → (∀ w0, Below base w0 w → Below base w0 w') → w.heap.size ≤ w'.heap.size → wpList Try.prog ops Q rest (a.put o.dst v') w') : wpList Try.prog ops Q (o :: rest) a w := by
  obtain ⟨i0, hi, hz0, hz1, hz2⟩ := info_item
  rcases hk with ⟨rfl, rfl⟩ | ⟨ad, len, cap, rfl, g1, g2, rfl, g4⟩
  · refine wpList_append_own_none hgd s x 63 ho base 65 i0 3 Try.underlying63 hi v l.length (flat3 l) hs hown hx ?_
    exact h v w [] (by rw [List.append_nil]; exact hown) trivial (fun _ h => h) (Nat.le_refl _)
  · obtain ⟨lk, hq, hc⟩ := KidsAt.list ks 0 g4
    have hl := hq.length
    refine wpList_append_own w hgd s x 63 ho base 65 i0 _ 3 48 Try.underlying63 hi hz0 hz1 hz2 rfl (by decide) v l.length (flat3 l) hs hown ad ks.length cap (flat3 lk) hx (by rw [flat3_length, hl]) (fun j u hj => ?_) (flat3_one lk) (by unfold maxLen; omega) (by omega) hbase ?_
    · have := hc j u hj
      rw [Nat.zero_mul, Nat.zero_add] at this
      rw [hbl.cell (block_lt_of_cell this)]
      exact this
    · intro v' w' hown' hg _
      refine h v' w' lk ?_ hq (fun w0 h0 => h0.grown hg hbase fun k hk => ?_) hg.size
      · unfold OwnQ
        rw [List.length_append, flat3_append, ← hl]
        exact hown'
      · exact (World.ownsRow.lt hown k hk).1
end Go.Proofs.Ythipnbiilobjeaa

namespace Go.Proofs.Ythipnbiilobjeaa
open Go.RowKit
set_option maxRecDepth 100000

theorem sizes_length : ∀ ks : List It, ks.length ≤ sizes ks
  | [] => Nat.le_refl _
  | k :: ks => by
    rw [sizes, List.length_cons]
    have := k.size_pos
    have := sizes_length ks
    omega

theorem puresB_append (xs ys : List It) : puresB (xs ++ ys) = (puresB xs && puresB ys) := by
  induction xs with
  | nil => simp [puresB]
  | cons x xs ih => rw [List.cons_append, puresB, puresB, ih, Bool.and_assoc]

/-- One step of the queue. -/
theorem queue_size {q : List It} {i : Nat} {l : Bool} {b : List UInt8} {ks : List It} (h : q[i]? = some (.mk l b ks)) {N : Nat} (hs : i + sizes (q.drop i) = N) : i + 1 + sizes ((q ++ ks).drop (i + 1)) = N := by
  obtain ⟨hi, he⟩ := List.getElem?_eq_some_iff.1 h
  have e : q.drop i = .mk l b ks :: q.drop (i + 1) := by rw [List.drop_eq_getElem_cons hi, he]
  have e2 : (q ++ ks).drop (i + 1) = q.drop (i + 1) ++ ks := List.drop_append_of_le_length (by omega)
  rw [e, sizes, It.size] at hs
  rw [e2, sizes_append]
  omega

theorem queue_step {q : List It} {i : Nat} {l : Bool} {b : List UInt8} {ks : List It} (h : q[i]? = some (.mk l b ks)) {N : Nat} {p : Bool} (hs : i + sizes (q.drop i) = N) (hp : puresB (q.drop i) = p)
    (hl : (if l = true then b.isEmpty else ks.isEmpty) = true) : i + 1 + sizes ((q ++ ks).drop (i + 1)) = N ∧ puresB ((q ++ ks).drop (i + 1)) = p := by
  obtain ⟨hi, he⟩ := List.getElem?_eq_some_iff.1 h
  have e : q.drop i = .mk l b ks :: q.drop (i + 1) := by rw [List.drop_eq_getElem_cons hi, he]
  have e2 : (q ++ ks).drop (i + 1) = q.drop (i + 1) ++ ks := List.drop_append_of_le_length (by omega)
  rw [e, sizes, It.size] at hs
  rw [e, puresB, It.pureB, hl, Bool.true_and] at hp
  rw [e2, sizes_append, puresB_append, Bool.and_comm]
  exact ⟨by omega, hp⟩

theorem queue_stop {q : List It} {i : Nat} {k : It} (h : q[i]? = some k) {p : Bool} (hp : puresB (q.drop i) = p) (hk : k.pureB = false) : p = false := by
  obtain ⟨hi, he⟩ := List.getElem?_eq_some_iff.1 h
  rw [List.drop_eq_getElem_cons hi, he, puresB, hk, Bool.false_and] at hp
  exact hp.symm

theorem queue_long {q : List It} {i : Nat} {l : Bool} {b : List UInt8} {ks : List It} (h : q[i]? = some (.mk l b ks)) {N : Nat} (hs : i + sizes (q.drop i) = N) : q.length + ks.length ≤ N := by
  obtain ⟨hi, he⟩ := List.getElem?_eq_some_iff.1 h
  have e : q.drop i = .mk l b ks :: q.drop (i + 1) := by rw [List.drop_eq_getElem_cons hi, he]
  have h1 := sizes_length (q.drop (i + 1))
  have h2 := sizes_length ks
  rw [List.length_drop] at h1
  rw [e, sizes, It.size] at hs
  omega

abbrev ivO (x : IV) : Obj := .cells #[.bool x.1, .string x.2.1, .slice x.2.2.1 x.2.2.2.1 x.2.2.2.2] 65

/-- What the queue reads as. -/
theorem OwnQ.parts {w : World} {base : Nat} {v : Value} {l : List IV} (h : OwnQ w base v l) : ∃ (p : Option Addr) (c : Nat), v = .slice p l.length c ∧ l.length ≤ c ∧ c ≤ 9223372036854775807 ∧
    ∀ i y, l[i]? = some y → ∃ a : Addr, p = some a ∧ w.cell? (a.add (i * 3)) = some (.bool y.1) ∧ w.cell? ⟨(a.add (i * 3)).block, (a.add (i * 3)).off + 1, none⟩ = some (.string y.2.1) ∧ w.cell? ⟨(a.add (i * 3)).block, (a.add (i * 3)).off + 2, none⟩ = some y.kids := by
  rcases h.2 with ⟨hv, hn⟩ | ⟨g, cap, cur, hv, hg, hc, hn, hcap, hsz, hx⟩
  · obtain rfl : l = [] := List.eq_nil_of_length_eq_zero hn
    exact ⟨none, 0, hv, Nat.le_refl _, Nat.zero_le _, fun i y hy => by simp at hy⟩
  · refine ⟨some ⟨g, 0, none⟩, cap, hv, hn, hcap, fun i y hy => ?_⟩
    obtain ⟨h1, h2, h3⟩ := flat3_get l i y hy
    have e : ∀ j, (⟨((⟨g, 0, none⟩ : Addr).add (i * 3)).block, ((⟨g, 0, none⟩ : Addr).add (i * 3)).off + (j + 1), none⟩ : Addr) = (⟨g, 0, none⟩ : Addr).add (i * 3 + (j + 1)) := fun j => by rw [← Go.Deep.add_add]; rfl
    have hob : v.ownBlock = some g := by rw [hv]; rfl
    refine ⟨_, rfl, World.ownsRow.cells h hob _ _ h1, ?_, ?_⟩
    · rw [e 0]; exact World.ownsRow.cells h hob _ _ h2
    · rw [e 1]; exact World.ownsRow.cells h hob _ _ h3

set_option maxRecDepth 100000 in
set_option maxHeartbeats 2000000 in
theorem well_any (x : It) (v : Value) (w : World) (hx : ItemIs w x v) :
    Calls Try.prog 74 #[v] w fun e w' => e = .returned (.bool (x.pureB && decide (x.size ≤ 4000))) ∧ Below w.heap.size w w' := by
  obtain ⟨⟨l, b, p, n, c⟩, rfl⟩ := itemIs_val hx
  have H := Lib.hid hx
  have L : Hid (RowAt (w.alloc (ivO (l, b, p, n, c))) w.heap.size #[.bool l, .string b, .slice p n c] 65) := Lib.hid (RowAt.new _ _ _)
  have B : Hid (Below w.heap.size w (w.alloc (ivO (l, b, p, n, c)))) := Lib.hid ((Below.refl _ _).alloc (Nat.le_refl _) _)
  clear hx
  have hop : OwnQ ((w.alloc (ivO (l, b, p, n, c))).alloc (ivO (l, b, p, n, c))) (w.heap.size + 1) (.slice (some ⟨w.heap.size + 1, 0, none⟩) 1 1) [(l, b, p, n, c)] := by
    have := World.ownsRow_lit (base := w.heap.size + 1) (e := 65) (size := 3) (w.alloc (ivO (l, b, p, n, c))) #[.bool l, .string b, .slice p n c] 1 (by simp) (by decide) rfl
    simpa [OwnQ, flat3, cells3, IV.kids] using this
  have O := Lib.hid hop
  have B2 : Hid (Below w.heap.size w ((w.alloc (ivO (l, b, p, n, c))).alloc (ivO (l, b, p, n, c)))) := Lib.hid (B.out.alloc B.out.size _)
  clear hop
  show Calls Try.prog 74 #[.agg #[.bool l, .string b, .slice p n c]] w _
  obtain ⟨a0, a1, a2, af0, af1, af2⟩ := L.out.c3
  go_enter Try.func74, Try.ntmps74
  go_wp2
  have hsz := B2.out.size
  generalize hW : (w.alloc (ivO (l, b, p, n, c))).alloc (ivO (l, b, p, n, c)) = W at *
  have hb1 : w.heap.size + 1 ≤ W.heap.size := by rw [← hW]; simp
  have Q0 : Hid (QIs w [x] [(l, b, p, n, c)]) := Lib.hid ⟨H.out, trivial⟩
  have S0 : Hid (0 + sizes ([x].drop 0) = x.size ∧ puresB ([x].drop 0) = x.pureB) := Lib.hid (by simp [sizes, puresB])
  clear a0 a1 a2 af0 af1 af2 L B H hW
  go_loopw [3, 4] (fun s3 s4 wr => ∃ (q : List It) (lv : List IV) (i : Nat), s4 = .int .i64 i ∧ i ≤ q.length ∧ q.length ≤ 4000 ∧ OwnQ wr (w.heap.size + 1) s3 lv ∧ QIs w q lv ∧ (i + sizes (q.drop i) = x.size ∧ puresB (q.drop i) = x.pureB) ∧ Below w.heap.size w wr ∧ w.heap.size + 1 ≤ wr.heap.size)
    (fun _ s4 _ => x.size - (intOf s4).toNat)
  case atStart => exact ⟨[x], [(l, b, p, n, c)], 0, rfl, by simp, by simp, O.out, Q0.out, S0.out, B2.out, hb1⟩
  case round =>
    clear O Q0 S0 B2 hb1 hsz
    obtain ⟨q, lv, i, rfl, hi, hq, hown, hqs, hinv, hbl, hbs⟩ := hrel
    have hlen := hqs.length
    obtain ⟨p1, c1, ev, g1, g2, hg⟩ := hown.parts
    rw [← hlen] at g1 ev
    subst ev
    by_cases hlt : i < q.length
    · obtain ⟨⟨l', b', ks⟩, hk⟩ : ∃ k, q[i]? = some k := ⟨_, List.getElem?_eq_getElem hlt⟩
      obtain ⟨y, hy, hit⟩ := hqs.get hk
      obtain ⟨a, rfl, q0, q1, q2⟩ := hg i y hy
      obtain ⟨kv, ey, hbz, hks⟩ := itemIs_iff.1 hit
      obtain ⟨pk, ck, rfl, hk1, hk2, _⟩ := hks.parts
      obtain ⟨y1, y2, y3, y4, y5⟩ := y
      have ey' : y1 = l' ∧ y2 = mkS b' ∧ y3 = pk ∧ y4 = ks.length ∧ y5 = ck := by
        simp [IV.val, IV.kids, itemV] at ey
        exact ey
      obtain ⟨rfl, rfl, rfl, rfl, rfl⟩ := ey'
      clear ey hbz
      simp only [IV.kids] at q0 q1 q2
      have hlong := queue_long hk hinv.1
      have hcase : (y1 = false ∧ 0 < ks.length ∧ (It.mk y1 b' ks).pureB = false) ∨ (y1 = true ∧ b' ≠ [] ∧ (It.mk y1 b' ks).pureB = false) ∨ ((y1 = false ∧ ks.length = 0 ∨ y1 = true ∧ b' = []) ∧ (if y1 = true then b'.isEmpty else ks.isEmpty) = true) := by
        cases y1
        · cases ks
          · right; right; simp
          · left; simp [It.pureB]
        · cases b'
          · right; right; simp
          · right; left; simp [It.pureB]
      have HB := Lib.hid hbl
      have HO : Hid (OwnQ (wr.alloc (ivO (y1, mkS b', y3, ks.length, y5))) (w.heap.size + 1) (.slice (some a) q.length c1) lv) := Lib.hid (hown.below ((Below.refl wr.heap.size wr).alloc (Nat.le_refl _) _) (Nat.le_refl _))
      have HK : Hid (KidsIs w ks (.slice y3 ks.length y5)) := Lib.hid hks
      have HQ : Hid (QIs w q lv) := Lib.hid hqs
      have HB2 : Hid (Below w.heap.size w (wr.alloc (ivO (y1, mkS b', y3, ks.length, y5)))) := Lib.hid (hbl.alloc hbl.size _)
      have HI := Lib.hid hinv
      have HLen := Lib.hid hlen
      have KK := Lib.hid hk
      clear hbl hown hqs hks hit hinv hg hy hlen hk
      rcases hcase with ⟨rfl, hc, hr⟩ | ⟨rfl, hc, hr⟩ | ⟨hc, hr⟩
      · have HP := Lib.hid (queue_stop KK.out HI.out.2 hr)
        clear hr hlong
        go_wp2
        go_ret
        rw [HP.out]
        exact ⟨rfl, HB2.out⟩
      · have HP := Lib.hid (queue_stop KK.out HI.out.2 hr)
        have hs : ¬ (mkS b').toList = [] := by rw [toList_bl, bl_mk]; exact hc
        have hs2 : (mkS b').toList.isEmpty = false := by rw [toList_bl, bl_mk]; simpa using hc
        clear hr hlong hc
        go_wp2
        go_ret
        rw [HP.out]
        exact ⟨rfl, HB2.out⟩
      · by_cases hm : 4000 - q.length < ks.length
        · have HP : Hid (decide (x.size ≤ 4000) = false) := Lib.hid (by simp; omega)
          clear hlong
          rcases hc with ⟨rfl, hc⟩ | ⟨rfl, rfl⟩
          · omega
          · clear hr
            have hs : (mkS []).toList = [] := by rw [toList_bl, bl_mk]
            go_wp2
            go_ret
            rw [HP.out, Bool.and_false]
            exact ⟨rfl, HB2.out⟩
        · have HS := Lib.hid (queue_step KK.out HI.out.1 HI.out.2 hr)
          clear hlong
          have hks : (ks = [] ∨ y1 = true) := by
            rcases hc with ⟨_, hc⟩ | ⟨hc, _⟩
            · exact .inl (List.eq_nil_of_length_eq_zero hc)
            · exact .inr hc
          have hs : y1 = true → (mkS b').toList = [] := by
            rintro rfl
            rcases hc with ⟨h, _⟩ | ⟨_, rfl⟩
            · cases h
            · rw [toList_bl, bl_mk]
          clear hc hr
          have hx1 : i < x.size := by have := HS.out.1; omega
          cases y1 with
          | false =>
            obtain rfl : ks = [] := by simpa using hks
            clear hs hks
            simp only [List.length_nil] at hm hk1 HO HK HQ HB2 q2
            go_wp2_with (at_builtin; refine wpList_append_kids rfl _ _ rfl (w.heap.size + 1) _ lv rfl HO.out w [] _ rfl HK.out HB2.out (by have := HLen.out; (try simp only [List.length_nil]); omega) (by simp; omega) ?_; intro v' w' lk ho' hq' hb' hz')
            have hz2 : wr.heap.size + 1 ≤ w'.heap.size := by simpa using hz'
            refine ⟨⟨q ++ [], lv ++ lk, i + 1, by go_num, by rw [List.length_append]; omega, by rw [List.length_append]; (try simp only [List.length_nil]); omega, ho', hq'.append HQ.out, HS.out, HB2.out.trans ((hb' _ (Below.refl _ _)).mono (by omega)), by omega⟩, by simp [intOf]; omega⟩
          | true =>
            replace hs := hs rfl
            clear hks
            go_wp2_with (at_builtin; refine wpList_append_kids rfl _ _ rfl (w.heap.size + 1) _ lv rfl HO.out w ks _ rfl HK.out HB2.out (by have := HLen.out; (try simp only [List.length_nil]); omega) (by simp; omega) ?_; intro v' w' lk ho' hq' hb' hz')
            have hz2 : wr.heap.size + 1 ≤ w'.heap.size := by simpa using hz'
            refine ⟨⟨q ++ ks, lv ++ lk, i + 1, by go_num, by rw [List.length_append]; omega, by rw [List.length_append]; (try simp only [List.length_nil]); omega, ho', hq'.append HQ.out, HS.out, HB2.out.trans ((hb' _ (Below.refl _ _)).mono (by omega)), by omega⟩, by simp [intOf]; omega⟩
    · have e : q.drop i = [] := List.drop_of_length_le (by omega)
      rw [e] at hinv
      have HP : Hid (x.pureB = true ∧ x.size ≤ 4000) := Lib.hid ⟨by rw [← hinv.2]; rfl, by rw [← hinv.1]; simp [sizes]; omega⟩
      have HB := Lib.hid hbl
      clear hbl hinv hg hqs hown
      go_wp2
      go_ret
      rw [HP.out.1, decide_eq_true HP.out.2]
      exact ⟨rfl, HB.out⟩
end Go.Proofs.Ythipnbiilobjeaa

namespace Go.Proofs.Ythipnbiilobjeaa
open Go.RowKit
set_option maxRecDepth 100000

theorem wpList_append_item {ops : Array Oper} {rest : List Oper} {o : Oper} {a : Act} {Q : Exit → Act → World → Prop} {w : World} (hgd : o.guard = Option.none) (s x : Operand)
    (ho : o.op = .call { callee := .builtin .append, args := #[s, x], argTypes := #[63, 63] }) (base : Nat) (v : Value) (l : List IV) (hs : a.eval s = v) (hown : OwnQ w base v l)
    (ad : Addr) (y : IV) (hx : a.eval x = .slice (some ad) 1 1) (hc : ∀ j u, (cells3 y)[j]? = some u → w.cell? (ad.add j) = some u)
    (hb : l.length + 1 ≤ 100000) (hbase : base ≤ w.heap.size)
    (h : ∀ v' w', OwnQ w' base v' (l ++ [y]) → (∀ w0, Below base w0 w → Below base w0 w') → w.heap.size ≤ w'.heap.size → wpList Try.prog ops Q rest (a.put o.dst v') w') : wpList Try.prog ops Q (o :: rest) a w := by
  obtain ⟨i0, hi, hz0, hz1, hz2⟩ := info_item
  have e1 : flat3 [y] = cells3 y := by simp [flat3]
  refine wpList_append_own w hgd s x 63 ho base 65 i0 _ 3 48 Try.underlying63 hi hz0 hz1 hz2 rfl (by decide) v l.length (flat3 l) hs hown ad 1 1 (cells3 y) hx rfl hc (by rw [← e1]; exact flat3_one [y]) (by unfold maxLen; omega) (by omega) hbase ?_
  intro v' w' hown' hg _
  refine h v' w' ?_ (fun w0 h0 => h0.grown hg hbase fun k hk => (World.ownsRow.lt hown k hk).1) hg.size
  unfold OwnQ
  rw [List.length_append, flat3_append, e1]
  exact hown'

theorem alloc_cells3 (w0 : World) (y : IV) (g : Nat) (hg : g = w0.heap.size) : ∀ j u, (cells3 y)[j]? = some u → (w0.alloc (ivO y)).cell? ((⟨g, 0, none⟩ : Addr).add j) = some u := by
  subst hg
  intro j u hj
  match j, hj with
  | 0, hj => simp [cells3] at hj; subst hj; simp [Addr.add]
  | 1, hj => simp [cells3] at hj; subst hj; simp [Addr.add]
  | 2, hj => simp [cells3] at hj; subst hj; simp [Addr.add, IV.kids]
  | j + 3, hj => simp [cells3] at hj

/-- The queue behind some kids, cut. -/
def qcut (lim : Nat) (q ks : List It) (j : Nat) : List It := (q ++ ks.take j).take (lim + 1)

theorem qcut_zero {lim : Nat} {q ks : List It} (h : q.length ≤ lim) : qcut lim q ks 0 = q := by
  unfold qcut
  rw [List.take_zero, List.append_nil, List.take_of_length_le (by omega)]
theorem qcut_length (lim : Nat) (q ks : List It) (j : Nat) (h : j ≤ ks.length) : (qcut lim q ks j).length = min (lim + 1) (q.length + j) := by
  simp [qcut]; omega
theorem qcut_more {lim : Nat} {q ks : List It} {j : Nat} {k : It} (hk : ks[j]? = some k) (h : q.length + j ≤ lim) : qcut lim q ks (j + 1) = qcut lim q ks j ++ [k] := by
  have hj : j < ks.length := (List.getElem?_eq_some_iff.1 hk).1
  have e1 : qcut lim q ks (j + 1) = q ++ ks.take (j + 1) := by unfold qcut; rw [List.take_of_length_le]; simp; omega
  have e2 : qcut lim q ks j = q ++ ks.take j := by unfold qcut; rw [List.take_of_length_le]; simp; omega
  rw [e1, e2, List.take_add_one, hk, List.append_assoc]
  rfl
theorem qcut_full {lim : Nat} {q ks : List It} {j : Nat} (hj : j < ks.length) (h : lim < q.length + j) : qcut lim q ks (j + 1) = qcut lim q ks j := by
  unfold qcut
  have e : ks.take (j + 1) = ks.take j ++ (ks[j]?).toList := List.take_add_one
  rw [e, ← List.append_assoc, List.take_append_of_le_length (by simp; omega)]
theorem qcut_all {lim : Nat} {q ks : List It} (h : (q ++ ks).length ≤ lim) : qcut lim q ks ks.length = q ++ ks := by
  unfold qcut
  rw [List.take_length, List.take_of_length_le (by omega)]

/-- What the queue says of the item. -/
def QInv (lim : Nat) (x : It) (q : List It) (i : Nat) : Prop := (q.length ≤ lim ∧ i + sizes (q.drop i) = x.size) ∨ (q.length = lim + 1 ∧ lim + 1 ≤ x.size)

theorem QInv.step {lim : Nat} {x : It} {q : List It} {i : Nat} {l : Bool} {b : List UInt8} {ks : List It} (hk : q[i]? = some (.mk l b ks)) (_ : q.length ≤ lim) (hs : i + sizes (q.drop i) = x.size) : QInv lim x (qcut lim q ks ks.length) (i + 1) := by
  by_cases h : (q ++ ks).length ≤ lim
  · rw [qcut_all h]
    exact .inl ⟨h, queue_size hk hs⟩
  · have := queue_long hk hs
    rw [List.length_append] at h
    exact .inr ⟨by rw [qcut_length _ _ _ _ (Nat.le_refl _)]; omega, by omega⟩

set_option maxRecDepth 100000 in
set_option maxHeartbeats 2000000 in
theorem many_any (x : It) (v : Value) (lim : Nat) (w : World) (hx : ItemIs w x v) (hl : lim ≤ 5000) :
    Calls Try.prog 141 #[v, .int .i64 lim] w fun e w' => e = .returned (.int .i64 (min x.size (lim + 1) : Nat)) ∧ Below w.heap.size w w' := by
  obtain ⟨⟨l, b, p, n, c⟩, rfl⟩ := itemIs_val hx
  have H := Lib.hid hx
  have L : Hid (RowAt (w.alloc (ivO (l, b, p, n, c))) w.heap.size #[.bool l, .string b, .slice p n c] 65) := Lib.hid (RowAt.new _ _ _)
  have B : Hid (Below w.heap.size w (w.alloc (ivO (l, b, p, n, c)))) := Lib.hid ((Below.refl _ _).alloc (Nat.le_refl _) _)
  clear hx
  have hop : OwnQ ((w.alloc (ivO (l, b, p, n, c))).alloc (ivO (l, b, p, n, c))) (w.heap.size + 1) (.slice (some ⟨w.heap.size + 1, 0, none⟩) 1 1) [(l, b, p, n, c)] := by
    have := World.ownsRow_lit (base := w.heap.size + 1) (e := 65) (size := 3) (w.alloc (ivO (l, b, p, n, c))) #[.bool l, .string b, .slice p n c] 1 (by simp) (by decide) rfl
    simpa [OwnQ, flat3, cells3, IV.kids] using this
  have O := Lib.hid hop
  have B2 : Hid (Below w.heap.size w ((w.alloc (ivO (l, b, p, n, c))).alloc (ivO (l, b, p, n, c)))) := Lib.hid (B.out.alloc B.out.size _)
  clear hop
  show Calls Try.prog 141 #[.agg #[.bool l, .string b, .slice p n c], .int .i64 lim] w _
  obtain ⟨a0, a1, a2, af0, af1, af2⟩ := L.out.c3
  go_enter Try.func141, Try.ntmps141
  go_wp2
  have hsz := B2.out.size
  generalize hW : (w.alloc (ivO (l, b, p, n, c))).alloc (ivO (l, b, p, n, c)) = W at *
  have hb1 : w.heap.size + 1 ≤ W.heap.size := by rw [← hW]; simp
  have Q0 : Hid (QIs w [x] [(l, b, p, n, c)]) := Lib.hid ⟨H.out, trivial⟩
  have S0 : Hid (QInv lim x [x] 0) := Lib.hid (by
    have := x.size_pos
    by_cases h : 1 ≤ lim
    · exact .inl ⟨by simpa using h, by simp [sizes]⟩
    · exact .inr ⟨by simp; omega, by omega⟩)
  clear a0 a1 a2 af0 af1 af2 L B H hW
  go_loopw [5, 6] (fun s5 s6 wr => ∃ (q : List It) (lv : List IV) (i : Nat), s6 = .int .i64 i ∧ i ≤ q.length ∧ q.length ≤ lim + 1 ∧ OwnQ wr (w.heap.size + 1) s5 lv ∧ QIs w q lv ∧ QInv lim x q i ∧ Below w.heap.size w wr ∧ w.heap.size + 1 ≤ wr.heap.size)
    (fun _ s6 _ => lim + 2 - (intOf s6).toNat)
  case atStart => exact ⟨[x], [(l, b, p, n, c)], 0, rfl, by simp, by simp, O.out, Q0.out, S0.out, B2.out, hb1⟩
  case round =>
    clear O Q0 S0 B2 hb1 hsz
    obtain ⟨q, lv, i, rfl, hi, hq, hown, hqs, hinv, hbl, hbs⟩ := hrel
    have hlen := hqs.length
    obtain ⟨p1, c1, ev, g1, g2, hg⟩ := hown.parts
    rw [← hlen] at g1 ev
    subst ev
    by_cases hlt : i < q.length
    · by_cases hfull : q.length ≤ lim
      · have hs : i + sizes (q.drop i) = x.size := by
          rcases hinv with h | h
          · exact h.2
          · omega
        obtain ⟨⟨l', b', ks⟩, hk⟩ : ∃ k, q[i]? = some k := ⟨_, List.getElem?_eq_getElem hlt⟩
        obtain ⟨y, hy, hit⟩ := hqs.get hk
        obtain ⟨a, rfl, q0, q1, q2⟩ := hg i y hy
        obtain ⟨kv, ey, hbz, hks⟩ := itemIs_iff.1 hit
        obtain ⟨pk, ck, rfl, hk1, hk2, hgk⟩ := hks.parts
        obtain ⟨y1, y2, y3, y4, y5⟩ := y
        have ey' : y1 = l' ∧ y2 = mkS b' ∧ y3 = pk ∧ y4 = ks.length ∧ y5 = ck := by
          simp [IV.val, IV.kids, itemV] at ey
          exact ey
        obtain ⟨rfl, rfl, rfl, rfl, rfl⟩ := ey'
        clear ey hbz q0 q1
        simp only [IV.kids] at q2
        have HG := Lib.hid hgk
        clear hgk
        have HV : Hid (QInv lim x (qcut lim q ks ks.length) (i + 1)) := Lib.hid (QInv.step hk hfull hs)
        have HO := Lib.hid hown
        have HQ := Lib.hid hqs
        have HB := Lib.hid hbl
        have HC0 : Hid (qcut lim q ks 0 = q) := Lib.hid (qcut_zero hfull)
        have HCL := Lib.hid (fun j h => qcut_length lim q ks j h)
        have HCM := Lib.hid (fun j k (h : ks[j]? = some k) h' => qcut_more (lim := lim) (q := q) h h')
        have HCF := Lib.hid (fun j (h : j < ks.length) h' => qcut_full (lim := lim) (q := q) h h')
        clear hown hqs hbl hinv hg hy hk hit hlen hs hks
        generalize hm : ks.length = m at *
        have HM := Lib.hid hm
        clear hm
        go_wp2
        go_loopw [5, 29] (fun s5 s29 wr => ∃ (j : Nat) (lq : List IV), s29 = .int .i64 j ∧ j ≤ m ∧ OwnQ wr (w.heap.size + 1) s5 lq ∧ QIs w (qcut lim q ks j) lq ∧ Below w.heap.size w wr ∧ w.heap.size + 1 ≤ wr.heap.size)
          (fun _ s29 _ => m - (intOf s29).toNat)
        case atStart => exact ⟨0, lv, rfl, Nat.zero_le _, HO.out, by rw [HC0.out]; exact HQ.out, HB.out, hbs⟩
        case round =>
          clear HO HQ HB hbs
          obtain ⟨j, lq, rfl, hj, hown, hqs, hbl, hbs⟩ := hrel
          have hlen := hqs.length
          obtain ⟨p1, c2, ev, g3, g4, -⟩ := hown.parts
          rw [← hlen, HCL.out j hj] at g3 ev
          clear q2
          have HO := Lib.hid hown
          have HQ := Lib.hid hqs
          have HB := Lib.hid hbl
          have HLen := Lib.hid hlen
          clear hown hqs hbl hlen
          by_cases hjm : j < m
          · obtain ⟨k, hk⟩ : ∃ k, ks[j]? = some k := ⟨_, List.getElem?_eq_getElem (by rw [HM.out]; exact hjm)⟩
            obtain ⟨a', l', b'', p', n', c', rfl, c0', c1', c2', hit⟩ := HG.out j k hk
            have q0 : wr.cell? (a'.add (j * 3)) = some (.bool l') := by rw [HB.out.cell (block_lt_of_cell c0')]; exact c0'
            have q1 : wr.cell? ⟨(a'.add (j * 3)).block, (a'.add (j * 3)).off + 1, none⟩ = some (.string b'') := by
              have e : (⟨(a'.add (j * 3)).block, (a'.add (j * 3)).off + 1, none⟩ : Addr) = a'.add (j * 3 + 1) := by rw [← Go.Deep.add_add]; rfl
              rw [e, HB.out.cell (block_lt_of_cell c1')]
              exact c1'
            have q2 : wr.cell? ⟨(a'.add (j * 3)).block, (a'.add (j * 3)).off + 2, none⟩ = some (.slice p' n' c') := by
              have e : (⟨(a'.add (j * 3)).block, (a'.add (j * 3)).off + 2, none⟩ : Addr) = a'.add (j * 3 + 2) := by rw [← Go.Deep.add_add]; rfl
              rw [e, HB.out.cell (block_lt_of_cell c2')]
              exact c2'
            have KI : Hid (QIs w [k] [(l', b'', p', n', c')]) := Lib.hid ⟨hit, trivial⟩
            have KK := Lib.hid hk
            clear c0' c1' c2' hit hk
            replace HB := Lib.hid (HB.out.alloc HB.out.size (ivO (l', b'', p', n', c')))
            replace HO := Lib.hid (HO.out.below ((Below.refl wr.heap.size wr).alloc (Nat.le_refl _) (ivO (l', b'', p', n', c'))) (Nat.le_refl _))
            by_cases hroom : q.length + j ≤ lim
            · rw [show min (lim + 1) (q.length + j) = q.length + j by omega] at g3 ev
              subst ev
              have hll : lq.length ≤ 5000 := by have := HLen.out; rw [HCL.out j hj] at this; omega
              replace HB := Lib.hid (HB.out.alloc HB.out.size (ivO (l', b'', p', n', c')))
              replace HO := Lib.hid (HO.out.below ((Below.refl (wr.alloc (ivO (l', b'', p', n', c'))).heap.size (wr.alloc (ivO (l', b'', p', n', c')))).alloc (Nat.le_refl _) (ivO (l', b'', p', n', c'))) (Nat.le_refl _))
              have HN := Lib.hid (HCM.out j k KK.out hroom)
              go_wp2_with (at_builtin; refine wpList_append_item rfl _ _ rfl (w.heap.size + 1) _ lq rfl HO.out ⟨wr.heap.size + 1, 0, none⟩ (l', b'', p', n', c') rfl ?_ (by omega) (by simp; omega) ?_)
              · exact alloc_cells3 (wr.alloc (ivO (l', b'', p', n', c'))) (l', b'', p', n', c') (wr.heap.size + 1) (by simp)
              · intro v' w' ho' hb' hz'
                have hz2 : wr.heap.size + 2 ≤ w'.heap.size := by simpa using hz'
                have HO2 := Lib.hid ho'
                have HB2 := Lib.hid (HB.out.trans ((hb' _ (Below.refl _ _)).mono (by omega)))
                have HQ2 := Lib.hid (KI.out.append HQ.out)
                clear ho' hb' hz' HO HB
                go_wp2_with fail
                go_roundw
                case rel => exact ⟨j + 1, lq ++ [(l', b'', p', n', c')], by go_num, by omega, HO2.out, by rw [HN.out]; exact HQ2.out, HB2.out, by omega⟩
                case measure => simp [intOf]; omega
            · rw [show min (lim + 1) (q.length + j) = lim + 1 by omega] at g3 ev
              subst ev
              have HN := Lib.hid (HCF.out j hjm (by omega))
              go_wp2
              go_roundw
              case rel => exact ⟨j + 1, lq, by go_num, by omega, HO.out, by rw [HN.out]; exact HQ.out, HB.out, by simp; omega⟩
              case measure => simp [intOf]; omega
          · obtain rfl : j = m := by omega
            subst ev
            clear g3 g4
            go_wp2
            refine ⟨⟨qcut lim q ks j, lq, i + 1, by go_num, ?_, ?_, HO.out, HQ.out, HV.out, HB.out, hbs⟩, by simp [intOf]; omega⟩
            · rw [HCL.out j hj]; omega
            · rw [HCL.out j hj]; omega
      · have HP : Hid (min x.size (lim + 1) = q.length) := Lib.hid (by rcases hinv with h | h <;> omega)
        have HB := Lib.hid hbl
        clear hbl hinv hg hqs hown hlen
        go_wp2
        go_ret
        rw [HP.out]
        exact ⟨rfl, HB.out⟩
    · have e : q.drop i = [] := List.drop_of_length_le (by omega)
      have HP : Hid (min x.size (lim + 1) = q.length) := Lib.hid (by
        rcases hinv with h | h
        · rw [e] at h; simp only [sizes] at h; omega
        · omega)
      have HB := Lib.hid hbl
      clear hbl hinv hg hqs hown hlen
      go_wp2
      go_ret
      rw [HP.out]
      exact ⟨rfl, HB.out⟩
end Go.Proofs.Ythipnbiilobjeaa
