/- Rlp: the queue grows; the contract of well. Rlp: the contract of well. Rlp: the contract of the reference's Many. Rlp: contracts of the program: write. Rlp: contracts of both Encodes. Rlp: contracts of the reference's Encode, of alive and few; items compared. Rlp: numbers: plain laws; contracts of Value, the reference's Value, and both Numbers. Rlp: items that a call has made: they lie in blocks of a class; the row of kids that grows. Rlp: a list that is being read: its state in memory from kid to kid; plain laws of the readers' loops. Rlp: the contract of read. Frame, the plain side: kinds of a form, fields as items and back. Frame: how kinds and fields lie; how many bytes fields of a kind have; the kind that stands first. Frame: kinds, as many as stand there; the kinds of a form. Frame: are there few fields in a row? Frame: items as trees; sizes; one list's items (given one item's contract). Frame: the items of a list of fields (given one item's contract). Regions that draw their order, hold reads, calls that make memory, and ONE store (unguarded) into cells that nothing else of the region reads or writes: one walk, in the order of the text. Frame: Write, by a form. Frame: one item as a field (given a list's contract). Frame: the fields of a list of items (given one field's contract). Frame: Read, by a form. Frame: how many fields there are (that it answers). Frame: ref11.Like of rows that are the same. Frame: fields that come in; the law's own call that must answer. -/
import Derived.Deep.SlicePairs
import Derived.Laws.Bits64b
import Derived.Defers
import Derived.Recover
import Derived.BigRegion
import Derived.Deep.DeepCutAuto
import Derived.WalkMore
import Derived.Deep.Slices
import Derived.BigQuiet
import Derived.Test.YtefmlbckbhlgdaaTg0
import Derived.Test.YtefmlbckbhlgdaaTg2
import Derived.Test.YtefmlbckbhlgdaaTg3
namespace Go.Proofs.Ytefmlbckbhlgdaa
open Go.RowKit
set_option maxRecDepth 100000
/-- The call's own row of items. -/
def OwnQ (w : World) (base : Nat) (v : Value) (l : List IV) : Prop := w.ownsRow base 98 3 v l.length (flat3 l)

theorem info_item : ∃ i, Try.prog.info? 98 = some i ∧ i.zero = some (.agg #[.bool false, .string ⟨#[]⟩, .slice none 0 0]) ∧ i.size = 3 ∧ i.bytes = 48 := by
  refine ⟨_, rfl, ?_, ?_, ?_⟩ <;> kernel_rfl

theorem OwnQ.below {w w' : World} {base B : Nat} {v : Value} {l : List IV} (h : OwnQ w base v l) (hb : Below B w w') (hB : w.heap.size ≤ B) : OwnQ w' base v l := by
  refine ⟨h.1, ?_⟩
  rcases h.2 with h' | ⟨g, cap, cur, hv, hg, hc, r⟩
  · exact .inl h'
  · have hlt : g < w.heap.size := by
      rcases Nat.lt_or_ge g w.heap.size with h | h
      · exact h
      · rw [Array.getElem?_eq_none h] at hc; cases hc
    exact .inr ⟨g, cap, cur, hv, hg, by rw [hb.block g (by omega)]; exact hc, r⟩

theorem wpList_append_kids {ops : Array Oper} {rest : List Oper} {o : Oper} {a : Act} {Q : Exit → Act → World → Prop} {w : World} (hgd : o.guard = Option.none) (s x : Operand)
    (ho : o.op = .call { callee := .builtin .append, args := #[s, x], argTypes := #[93, 93] }) (base : Nat) (v : Value) (l : List IV) (hs : a.eval s = v) (hown : OwnQ w base v l)
    (w0 : World) (ks : List It) (kv : Value) (hx : a.eval x = kv) (hk : KidsIs w0 ks kv) (hbl : Below w0.heap.size w0 w)
    (hb : l.length + ks.length ≤ 100000) (hbase : base ≤ w.heap.size)
    (h : ∀ v' w' lk, OwnQ w' base v' (l ++ lk) → QIs w0 ks lk → (∀ w0, Below base w0 w → Below base w0 w') → w.heap.size ≤ w'.heap.size → wpList Try.prog ops Q rest (a.put o.dst v') w') : wpList Try.prog ops Q (o :: rest) a w := by
  obtain ⟨i0, hi, hz0, hz1, hz2⟩ := info_item
  rcases hk with ⟨rfl, rfl⟩ | ⟨ad, len, cap, rfl, g1, g2, rfl, g4⟩
  · refine wpList_append_own_none hgd s x 93 ho base 98 i0 3 Try.underlying93 hi v l.length (flat3 l) hs hown hx ?_
    exact h v w [] (by rw [List.append_nil]; exact hown) trivial (fun _ h => h) (Nat.le_refl _)
  · obtain ⟨lk, hq, hc⟩ := KidsAt.list ks 0 g4
    have hl := hq.length
    refine wpList_append_own w hgd s x 93 ho base 98 i0 _ 3 48 Try.underlying93 hi hz0 hz1 hz2 rfl (by decide) v l.length (flat3 l) hs hown ad ks.length cap (flat3 lk) hx (by rw [flat3_length, hl]) (fun j u hj => ?_) (flat3_one lk) (by unfold maxLen; omega) (by omega) hbase ?_
    · have := hc j u hj
      rw [Nat.zero_mul, Nat.zero_add] at this
      rw [hbl.cell (block_lt_of_cell this)]
      exact this
    · intro v' w' hown' hg _
      refine h v' w' lk ?_ hq (fun w0 h0 => h0.grown hg hbase fun k hk => ?_) hg.size
      · unfold OwnQ
        rw [List.length_append, flat3_append, ← hl]
        exact hown'
      · exact (World.ownsRow.lt hown k hk).1
end Go.Proofs.Ytefmlbckbhlgdaa
namespace Go.Proofs.Ytefmlbckbhlgdaa
open Go.RowKit
set_option maxRecDepth 100000
theorem sizes_length : ∀ ks : List It, ks.length ≤ sizes ks
  | [] => Nat.le_refl _
  | k :: ks => by
    rw [sizes, List.length_cons]
    have := k.size_pos
    have := sizes_length ks
    omega

theorem puresB_append (xs ys : List It) : puresB (xs ++ ys) = (puresB xs && puresB ys) := by
  induction xs with
  | nil => simp [puresB]
  | cons x xs ih => rw [List.cons_append, puresB, puresB, ih, Bool.and_assoc]

/-- One step of the queue. -/
theorem queue_size {q : List It} {i : Nat} {l : Bool} {b : List UInt8} {ks : List It} (h : q[i]? = some (.mk l b ks)) {N : Nat} (hs : i + sizes (q.drop i) = N) : i + 1 + sizes ((q ++ ks).drop (i + 1)) = N := by
  obtain ⟨hi, he⟩ := List.getElem?_eq_some_iff.1 h
  have e : q.drop i = .mk l b ks :: q.drop (i + 1) := by rw [List.drop_eq_getElem_cons hi, he]
  have e2 : (q ++ ks).drop (i + 1) = q.drop (i + 1) ++ ks := List.drop_append_of_le_length (by omega)
  rw [e, sizes, It.size] at hs
  rw [e2, sizes_append]
  omega

theorem queue_step {q : List It} {i : Nat} {l : Bool} {b : List UInt8} {ks : List It} (h : q[i]? = some (.mk l b ks)) {N : Nat} {p : Bool} (hs : i + sizes (q.drop i) = N) (hp : puresB (q.drop i) = p)
    (hl : (if l = true then b.isEmpty else ks.isEmpty) = true) : i + 1 + sizes ((q ++ ks).drop (i + 1)) = N ∧ puresB ((q ++ ks).drop (i + 1)) = p := by
  obtain ⟨hi, he⟩ := List.getElem?_eq_some_iff.1 h
  have e : q.drop i = .mk l b ks :: q.drop (i + 1) := by rw [List.drop_eq_getElem_cons hi, he]
  have e2 : (q ++ ks).drop (i + 1) = q.drop (i + 1) ++ ks := List.drop_append_of_le_length (by omega)
  rw [e, sizes, It.size] at hs
  rw [e, puresB, It.pureB, hl, Bool.true_and] at hp
  rw [e2, sizes_append, puresB_append, Bool.and_comm]
  exact ⟨by omega, hp⟩

theorem queue_stop {q : List It} {i : Nat} {k : It} (h : q[i]? = some k) {p : Bool} (hp : puresB (q.drop i) = p) (hk : k.pureB = false) : p = false := by
  obtain ⟨hi, he⟩ := List.getElem?_eq_some_iff.1 h
  rw [List.drop_eq_getElem_cons hi, he, puresB, hk, Bool.false_and] at hp
  exact hp.symm

theorem queue_long {q : List It} {i : Nat} {l : Bool} {b : List UInt8} {ks : List It} (h : q[i]? = some (.mk l b ks)) {N : Nat} (hs : i + sizes (q.drop i) = N) : q.length + ks.length ≤ N := by
  obtain ⟨hi, he⟩ := List.getElem?_eq_some_iff.1 h
  have e : q.drop i = .mk l b ks :: q.drop (i + 1) := by rw [List.drop_eq_getElem_cons hi, he]
  have h1 := sizes_length (q.drop (i + 1))
  have h2 := sizes_length ks
  rw [List.length_drop] at h1
  rw [e, sizes, It.size] at hs
  omega

abbrev ivO (x : IV) : Obj := .cells #[.bool x.1, .string x.2.1, .slice x.2.2.1 x.2.2.2.1 x.2.2.2.2] 98

/-- What the queue reads as. -/
theorem OwnQ.parts {w : World} {base : Nat} {v : Value} {l : List IV} (h : OwnQ w base v l) : ∃ (p : Option Addr) (c : Nat), v = .slice p l.length c ∧ l.length ≤ c ∧ c ≤ 9223372036854775807 ∧
    ∀ i y, l[i]? = some y → ∃ a : Addr, p = some a ∧ w.cell? (a.add (i * 3)) = some (.bool y.1) ∧ w.cell? ⟨(a.add (i * 3)).block, (a.add (i * 3)).off + 1, none⟩ = some (.string y.2.1) ∧ w.cell? ⟨(a.add (i * 3)).block, (a.add (i * 3)).off + 2, none⟩ = some y.kids := by
  rcases h.2 with ⟨hv, hn⟩ | ⟨g, cap, cur, hv, hg, hc, hn, hcap, hsz, hx⟩
  · obtain rfl : l = [] := List.eq_nil_of_length_eq_zero hn
    exact ⟨none, 0, hv, Nat.le_refl _, Nat.zero_le _, fun i y hy => by simp at hy⟩
  · refine ⟨some ⟨g, 0, none⟩, cap, hv, hn, hcap, fun i y hy => ?_⟩
    obtain ⟨h1, h2, h3⟩ := flat3_get l i y hy
    have e : ∀ j, (⟨((⟨g, 0, none⟩ : Addr).add (i * 3)).block, ((⟨g, 0, none⟩ : Addr).add (i * 3)).off + (j + 1), none⟩ : Addr) = (⟨g, 0, none⟩ : Addr).add (i * 3 + (j + 1)) := fun j => by rw [← Go.Deep.add_add]; rfl
    have hob : v.ownBlock = some g := by rw [hv]; rfl
    refine ⟨_, rfl, World.ownsRow.cells h hob _ _ h1, ?_, ?_⟩
    · rw [e 0]; exact World.ownsRow.cells h hob _ _ h2
    · rw [e 1]; exact World.ownsRow.cells h hob _ _ h3

set_option maxRecDepth 100000 in
set_option maxHeartbeats 2000000 in
theorem well_any (x : It) (v : Value) (w : World) (hx : ItemIs w x v) :
    Calls Try.prog 83 #[v] w fun e w' => e = .returned (.bool (x.pureB && decide (x.size ≤ 4000))) ∧ Below w.heap.size w w' := by
  obtain ⟨⟨l, b, p, n, c⟩, rfl⟩ := itemIs_val hx
  have H := Lib.hid hx
  have L : Hid (RowAt (w.alloc (ivO (l, b, p, n, c))) w.heap.size #[.bool l, .string b, .slice p n c] 98) := Lib.hid (RowAt.new _ _ _)
  have B : Hid (Below w.heap.size w (w.alloc (ivO (l, b, p, n, c)))) := Lib.hid ((Below.refl _ _).alloc (Nat.le_refl _) _)
  clear hx
  have hop : OwnQ ((w.alloc (ivO (l, b, p, n, c))).alloc (ivO (l, b, p, n, c))) (w.heap.size + 1) (.slice (some ⟨w.heap.size + 1, 0, none⟩) 1 1) [(l, b, p, n, c)] := by
    have := World.ownsRow_lit (base := w.heap.size + 1) (e := 98) (size := 3) (w.alloc (ivO (l, b, p, n, c))) #[.bool l, .string b, .slice p n c] 1 (by simp) (by decide) rfl
    simpa [OwnQ, flat3, cells3, IV.kids] using this
  have O := Lib.hid hop
  have B2 : Hid (Below w.heap.size w ((w.alloc (ivO (l, b, p, n, c))).alloc (ivO (l, b, p, n, c)))) := Lib.hid (B.out.alloc B.out.size _)
  clear hop
  show Calls Try.prog 83 #[.agg #[.bool l, .string b, .slice p n c]] w _
  obtain ⟨a0, a1, a2, af0, af1, af2⟩ := L.out.c3
  go_enter Try.func83, Try.ntmps83
  go_wp2
  have hsz := B2.out.size
  generalize hW : (w.alloc (ivO (l, b, p, n, c))).alloc (ivO (l, b, p, n, c)) = W at *
  have hb1 : w.heap.size + 1 ≤ W.heap.size := by rw [← hW]; simp
  have Q0 : Hid (QIs w [x] [(l, b, p, n, c)]) := Lib.hid ⟨H.out, trivial⟩
  have S0 : Hid (0 + sizes ([x].drop 0) = x.size ∧ puresB ([x].drop 0) = x.pureB) := Lib.hid (by simp [sizes, puresB])
  clear a0 a1 a2 af0 af1 af2 L B H hW
  go_loopw [3, 4] (fun s3 s4 wr => ∃ (q : List It) (lv : List IV) (i : Nat), s4 = .int .i64 i ∧ i ≤ q.length ∧ q.length ≤ 4000 ∧ OwnQ wr (w.heap.size + 1) s3 lv ∧ QIs w q lv ∧ (i + sizes (q.drop i) = x.size ∧ puresB (q.drop i) = x.pureB) ∧ Below w.heap.size w wr ∧ w.heap.size + 1 ≤ wr.heap.size)
    (fun _ s4 _ => x.size - (intOf s4).toNat)
  case atStart => exact ⟨[x], [(l, b, p, n, c)], 0, rfl, by simp, by simp, O.out, Q0.out, S0.out, B2.out, hb1⟩
  case round =>
    clear O Q0 S0 B2 hb1 hsz
    obtain ⟨q, lv, i, rfl, hi, hq, hown, hqs, hinv, hbl, hbs⟩ := hrel
    have hlen := hqs.length
    obtain ⟨p1, c1, ev, g1, g2, hg⟩ := hown.parts
    rw [← hlen] at g1 ev
    subst ev
    by_cases hlt : i < q.length
    · obtain ⟨⟨l', b', ks⟩, hk⟩ : ∃ k, q[i]? = some k := ⟨_, List.getElem?_eq_getElem hlt⟩
      obtain ⟨y, hy, hit⟩ := hqs.get hk
      obtain ⟨a, rfl, q0, q1, q2⟩ := hg i y hy
      obtain ⟨kv, ey, hbz, hks⟩ := itemIs_iff.1 hit
      obtain ⟨pk, ck, rfl, hk1, hk2, _⟩ := hks.parts
      obtain ⟨y1, y2, y3, y4, y5⟩ := y
      have ey' : y1 = l' ∧ y2 = mkS b' ∧ y3 = pk ∧ y4 = ks.length ∧ y5 = ck := by
        simp [IV.val, IV.kids, itemV] at ey
        exact ey
      obtain ⟨rfl, rfl, rfl, rfl, rfl⟩ := ey'
      clear ey hbz
      simp only [IV.kids] at q0 q1 q2
      have hlong := queue_long hk hinv.1
      have hcase : (y1 = false ∧ 0 < ks.length ∧ (It.mk y1 b' ks).pureB = false) ∨ (y1 = true ∧ b' ≠ [] ∧ (It.mk y1 b' ks).pureB = false) ∨ ((y1 = false ∧ ks.length = 0 ∨ y1 = true ∧ b' = []) ∧ (if y1 = true then b'.isEmpty else ks.isEmpty) = true) := by
        cases y1
        · cases ks
          · right; right; simp
          · left; simp [It.pureB]
        · cases b'
          · right; right; simp
          · right; left; simp [It.pureB]
      have HB := Lib.hid hbl
      have HO : Hid (OwnQ (wr.alloc (ivO (y1, mkS b', y3, ks.length, y5))) (w.heap.size + 1) (.slice (some a) q.length c1) lv) := Lib.hid (hown.below ((Below.refl wr.heap.size wr).alloc (Nat.le_refl _) _) (Nat.le_refl _))
      have HK : Hid (KidsIs w ks (.slice y3 ks.length y5)) := Lib.hid hks
      have HQ : Hid (QIs w q lv) := Lib.hid hqs
      have HB2 : Hid (Below w.heap.size w (wr.alloc (ivO (y1, mkS b', y3, ks.length, y5)))) := Lib.hid (hbl.alloc hbl.size _)
      have HI := Lib.hid hinv
      have HLen := Lib.hid hlen
      have KK := Lib.hid hk
      clear hbl hown hqs hks hit hinv hg hy hlen hk
      rcases hcase with ⟨rfl, hc, hr⟩ | ⟨rfl, hc, hr⟩ | ⟨hc, hr⟩
      · have HP := Lib.hid (queue_stop KK.out HI.out.2 hr)
        clear hr hlong
        go_wp2
        go_ret
        rw [HP.out]
        exact ⟨rfl, HB2.out⟩
      · have HP := Lib.hid (queue_stop KK.out HI.out.2 hr)
        have hs : ¬ (mkS b').toList = [] := by rw [toList_bl, bl_mk]; exact hc
        have hs2 : (mkS b').toList.isEmpty = false := by rw [toList_bl, bl_mk]; simpa using hc
        clear hr hlong hc
        go_wp2
        go_ret
        rw [HP.out]
        exact ⟨rfl, HB2.out⟩
      · by_cases hm : 4000 - q.length < ks.length
        · have HP : Hid (decide (x.size ≤ 4000) = false) := Lib.hid (by simp; omega)
          clear hlong
          rcases hc with ⟨rfl, hc⟩ | ⟨rfl, rfl⟩
          · omega
          · clear hr
            have hs : (mkS []).toList = [] := by rw [toList_bl, bl_mk]
            go_wp2
            go_ret
            rw [HP.out, Bool.and_false]
            exact ⟨rfl, HB2.out⟩
        · have HS := Lib.hid (queue_step KK.out HI.out.1 HI.out.2 hr)
          clear hlong
          have hks : (ks = [] ∨ y1 = true) := by
            rcases hc with ⟨_, hc⟩ | ⟨hc, _⟩
            · exact .inl (List.eq_nil_of_length_eq_zero hc)
            · exact .inr hc
          have hs : y1 = true → (mkS b').toList = [] := by
            rintro rfl
            rcases hc with ⟨h, _⟩ | ⟨_, rfl⟩
            · cases h
            · rw [toList_bl, bl_mk]
          clear hc hr
          have hx1 : i < x.size := by have := HS.out.1; omega
          cases y1 with
          | false =>
            obtain rfl : ks = [] := by simpa using hks
            clear hs hks
            simp only [List.length_nil] at hm hk1 HO HK HQ HB2 q2
            go_wp2_with (at_builtin; refine wpList_append_kids rfl _ _ rfl (w.heap.size + 1) _ lv rfl HO.out w [] _ rfl HK.out HB2.out (by have := HLen.out; (try simp only [List.length_nil]); omega) (by simp; omega) ?_; intro v' w' lk ho' hq' hb' hz')
            have hz2 : wr.heap.size + 1 ≤ w'.heap.size := by simpa using hz'
            refine ⟨⟨q ++ [], lv ++ lk, i + 1, by go_num, by rw [List.length_append]; omega, by rw [List.length_append]; (try simp only [List.length_nil]); omega, ho', hq'.append HQ.out, HS.out, HB2.out.trans ((hb' _ (Below.refl _ _)).mono (by omega)), by omega⟩, by simp [intOf]; omega⟩
          | true =>
            replace hs := hs rfl
            clear hks
            go_wp2_with (at_builtin; refine wpList_append_kids rfl _ _ rfl (w.heap.size + 1) _ lv rfl HO.out w ks _ rfl HK.out HB2.out (by have := HLen.out; (try simp only [List.length_nil]); omega) (by simp; omega) ?_; intro v' w' lk ho' hq' hb' hz')
            have hz2 : wr.heap.size + 1 ≤ w'.heap.size := by simpa using hz'
            refine ⟨⟨q ++ ks, lv ++ lk, i + 1, by go_num, by rw [List.length_append]; omega, by rw [List.length_append]; (try simp only [List.length_nil]); omega, ho', hq'.append HQ.out, HS.out, HB2.out.trans ((hb' _ (Below.refl _ _)).mono (by omega)), by omega⟩, by simp [intOf]; omega⟩
    · have e : q.drop i = [] := List.drop_of_length_le (by omega)
      rw [e] at hinv
      have HP : Hid (x.pureB = true ∧ x.size ≤ 4000) := Lib.hid ⟨by rw [← hinv.2]; rfl, by rw [← hinv.1]; simp [sizes]; omega⟩
      have HB := Lib.hid hbl
      clear hbl hinv hg hqs hown
      go_wp2
      go_ret
      rw [HP.out.1, decide_eq_true HP.out.2]
      exact ⟨rfl, HB.out⟩
end Go.Proofs.Ytefmlbckbhlgdaa
namespace Go.Proofs.Ytefmlbckbhlgdaa
open Go.RowKit
set_option maxRecDepth 100000
/-- The queue behind some kids, cut. -/
def qcut (lim : Nat) (q ks : List It) (j : Nat) : List It := (q ++ ks.take j).take (lim + 1)

theorem qcut_length (lim : Nat) (q ks : List It) (j : Nat) (h : j ≤ ks.length) : (qcut lim q ks j).length = min (lim + 1) (q.length + j) := by
  simp [qcut]; omega
theorem qcut_all {lim : Nat} {q ks : List It} (h : (q ++ ks).length ≤ lim) : qcut lim q ks ks.length = q ++ ks := by
  unfold qcut
  rw [List.take_length, List.take_of_length_le (by omega)]

/-- What the queue says of the item. -/
def QInv (lim : Nat) (x : It) (q : List It) (i : Nat) : Prop := (q.length ≤ lim ∧ i + sizes (q.drop i) = x.size) ∨ (q.length = lim + 1 ∧ lim + 1 ≤ x.size)

theorem QInv.step {lim : Nat} {x : It} {q : List It} {i : Nat} {l : Bool} {b : List UInt8} {ks : List It} (hk : q[i]? = some (.mk l b ks)) (_ : q.length ≤ lim) (hs : i + sizes (q.drop i) = x.size) : QInv lim x (qcut lim q ks ks.length) (i + 1) := by
  by_cases h : (q ++ ks).length ≤ lim
  · rw [qcut_all h]
    exact .inl ⟨h, queue_size hk hs⟩
  · have := queue_long hk hs
    rw [List.length_append] at h
    exact .inr ⟨by rw [qcut_length _ _ _ _ (Nat.le_refl _)]; omega, by omega⟩

end Go.Proofs.Ytefmlbckbhlgdaa
namespace Go.Proofs.Ytefmlbckbhlgdaa
open Go.RowKit
set_option maxRecDepth 100000
theorem bld_below {T e : TypeId} {B b N : Nat} {bs : List Value} {w w' : World} (h : Lib.IsBuilder T e B b bs w) (hb : Below N w w') (hN : w.heap.size ≤ N) : Lib.IsBuilder T e B b bs w' := by
  have key : ∀ p, Lib.BuilderAt T e B b p bs w → Lib.BuilderAt T e B b p bs w' := by
    intro p h
    have hlt := h.lt
    obtain ⟨hB, v, hbk, hown, hne⟩ := h
    refine ⟨hB, v, by rw [hb.block b (by omega)]; exact hbk, ⟨hown.1, ?_⟩, hne⟩
    rcases hown.2 with h' | ⟨g, cap, cur, hv, hg, hc, r⟩
    · exact .inl h'
    · have hlt : g < w.heap.size := by
        rcases Nat.lt_or_ge g w.heap.size with h | h
        · exact h
        · rw [Array.getElem?_eq_none h] at hc; cases hc
      exact .inr ⟨g, cap, cur, hv, hg, by rw [hb.block g (by omega)]; exact hc, r⟩
  rcases h with h | h
  · exact .inl (key _ h)
  · exact .inr (key _ h)

set_option maxRecDepth 100000 in
set_option maxHeartbeats 1000000 in
theorem write_any : ∀ (n : Nat) (x : It), x.size ≤ n → x.write.length ≤ 1000000000 → ∀ (v : Value) (w : World), ItemIs w x v →
    Calls Try.prog 85 #[v] w fun e w' => e = .returned (.string (mkS x.write)) ∧ Below w.heap.size w w'
  | 0, x, h, _, _, _, _ => by have := x.size_pos; omega
  | n + 1, .mk l b ks, hsz, hw, v, w, hv => by
    obtain ⟨kv, rfl, hbz, hk⟩ := itemIs_iff.1 hv
    have KI := Lib.hid (write_any n)
    clear hv
    obtain ⟨p, cap, rfl, h1, h2, hg⟩ := hk.parts
    rw [It.size] at hsz
    have B : Hid (Below w.heap.size w (w.alloc (itemO l (mkS b) (.slice p ks.length cap)))) := Lib.hid ((Below.refl _ _).alloc (Nat.le_refl _) _)
    have L : Hid (RowAt (w.alloc (itemO l (mkS b) (.slice p ks.length cap))) w.heap.size #[.bool l, .string (mkS b), .slice p ks.length cap] 98) := Lib.hid (RowAt.new _ _ _)
    cases l with
    | false =>
      rw [It.write, if_neg (by simp)] at hw ⊢
      have hz : (mkS b).size = b.length := mk_size _
      clear hk hsz hg KI
      by_cases hb : b.length ≠ 1
      · rw [if_neg (fun h => hb h.1)] at hw ⊢
        rw [List.length_append] at hw
        have KH := Lib.hid (fun w => head_any 128 b.length w (.inl rfl) (by omega))
        have HZ : (mkS (headL 128 b.length)).size + (mkS b).size ≤ 1000000000 := by rw [mk_size, mk_size]; omega
        have HE : Hid (mkS (headL 128 b.length) ++ mkS b = mkS (headL 128 b.length ++ b)) := Lib.hid (mk_append _ _)
        generalize mkS (headL 128 b.length ++ b) = RS at *
        generalize mkS (headL 128 b.length) = HS' at *
        clear hw
        generalize b.length = bn at *
        obtain ⟨a0, a1, a2, af0, af1, af2⟩ := L.out.c3
        go_enter Try.func85, Try.ntmps85
        go_wp2
        go_upto_region 11 with (fail)
        generalize w.alloc (itemO false (mkS b) (.slice p ks.length cap)) = W at *
        obtain ⟨l0, l1, l2⟩ := L.out.l3
        (refine region_later mix ?hB ?_; case hB => kernel_rfl); (repeat (first | go_big_quiet_step ((go_at_call 134; with_reducible exact Later.call (KH.out _))) | quiet_step ((go_at_call 134; with_reducible exact Later.call (KH.out _))))); (refine wpQuiet_nil ?_; rintro _ ⟨u, rfl⟩)
        go_wp2
        go_ret
        exact ⟨by rw [← HE.out]; rfl, B.out.trans (u.below.mono B.out.size)⟩
      · obtain ⟨c, rfl⟩ : ∃ c, b = [c] := by
          match b, (by omega : b.length = 1) with
          | [c], _ => exact ⟨c, rfl⟩
        have hz1 : (mkS [c]).size = 1 := rfl
        have hg : (mkS [c])[0]'(by rw [hz1]; decide) = c := rfl
        have hcl := c.toNat_lt
        clear hb hz
        by_cases hc : c.toNat < 128
        · rw [if_pos ⟨rfl, by simpa using hc⟩] at hw ⊢
          clear hw
          obtain ⟨a0, a1, a2, af0, af1, af2⟩ := L.out.c3
          go_enter Try.func85, Try.ntmps85
          go_wp2
          go_ret
          exact ⟨rfl, B.out⟩
        · rw [if_neg (fun h => hc (by simpa using h.2))] at hw ⊢
          rw [List.length_append] at hw
          have KH := Lib.hid (fun w => head_any 128 [c].length w (.inl rfl) (by simp))
          have HE : Hid (mkS (headL 128 [c].length) ++ mkS [c] = mkS (headL 128 [c].length ++ [c])) := Lib.hid (mk_append _ _)
          have HZ : (mkS (headL 128 [c].length)).size = 1 := by rw [headL_short (by simp)]; rfl
          generalize mkS (headL 128 [c].length ++ [c]) = RS at *
          generalize mkS (headL 128 [c].length) = HS' at *
          clear hw
          obtain ⟨a0, a1, a2, af0, af1, af2⟩ := L.out.c3
          go_enter Try.func85, Try.ntmps85
          go_wp2
          go_upto_region 11 with (fail)
          generalize w.alloc (itemO false (mkS [c]) (.slice p ks.length cap)) = W at *
          obtain ⟨l0, l1, l2⟩ := L.out.l3
          (refine region_later mix ?hB ?_; case hB => kernel_rfl); (repeat (first | go_big_quiet_step ((go_at_call 134; with_reducible exact Later.call (KH.out _))) | quiet_step ((go_at_call 134; with_reducible exact Later.call (KH.out _))))); (refine wpQuiet_nil ?_; rintro _ ⟨u, rfl⟩)
          go_wp2
          go_ret
          exact ⟨by rw [← HE.out]; rfl, B.out.trans (u.below.mono B.out.size)⟩
    | true =>
      rw [It.write, if_pos rfl] at hw ⊢
      rw [List.length_append] at hw
      have HG := Lib.hid hg
      have HS := Lib.hid (fun i k (h : ks[i]? = some k) => (by have := sizes_get h; omega : It.size k ≤ n))
      have HD := Lib.hid (fun i k (h : ks[i]? = some k) => writes_take h)
      have HL := Lib.hid (fun i => (by have := writes_take_le ks i; omega : (writes (ks.take i)).length ≤ 1000000000))
      have D0 : Hid (writes (ks.take 0) = []) := Lib.hid (by simp [writes])
      have DM : Hid (writes (ks.take ks.length) = writes ks) := Lib.hid (by rw [List.take_length])
      have KH := Lib.hid (fun w => head_any 192 (writes ks).length w (.inr rfl) (by omega))
      have HZ : (mkS (headL 192 (writes ks).length)).size + (mkS (writes ks)).size ≤ 1000000000 := by rw [mk_size, mk_size]; omega
      have HE : Hid (mkS (headL 192 (writes ks).length) ++ mkS (writes ks) = mkS (headL 192 (writes ks).length ++ writes ks)) := Lib.hid (mk_append _ _)
      have HZ2 : (mkS (writes ks)).size = (writes ks).length := mk_size _
      clear hk hsz hg hbz hw
      generalize mkS (headL 192 (writes ks).length ++ writes ks) = RS at *
      generalize hm : ks.length = m at *
      have HM := Lib.hid hm
      clear hm
      have hop := Lib.fresh_isBuilder 186 5 (w.alloc (itemO true (mkS b) (.slice p m cap)))
      rw [show (w.alloc (itemO true (mkS b) (.slice p m cap))).heap.size = w.heap.size + 1 by simp] at hop
      have B2 : Hid (Below w.heap.size w ((w.alloc (itemO true (mkS b) (.slice p m cap))).alloc (.cells #[.pointer none, .slice none 0 0] 186))) := Lib.hid (B.out.alloc B.out.size _)
      have OB := Lib.hid hop
      clear hop
      obtain ⟨a0, a1, a2, af0, af1, af2⟩ := L.out.c3
      go_enter Try.func85, Try.ntmps85
      go_wp2
      go_loopw [11] (fun i wr => ∃ k : Nat, k ≤ m ∧ i = .int .i64 k ∧ Lib.IsBuilder 186 5 (w.heap.size + 1) (w.heap.size + 1) (Lib.byteCells (writes (ks.take k))) wr ∧ Below w.heap.size w wr ∧ w.heap.size + 1 ≤ wr.heap.size) (fun i _ => m - (intOf i).toNat)
      case atStart => exact ⟨0, Nat.zero_le _, rfl, by rw [D0.out]; exact OB.out, B2.out, by simp⟩
      case round =>
        obtain ⟨k, hk, rfl, hob, hbl, hbs⟩ := hrel
        have HB := Lib.hid hbl
        have HO := Lib.hid hob
        clear hbl hob L B D0 B2 OB
        by_cases hlt : k < m
        · obtain ⟨x, hx⟩ : ∃ x, ks[k]? = some x := ⟨_, List.getElem?_eq_getElem (by rw [HM.out]; exact hlt)⟩
          obtain ⟨a, l', b', p', n', c', rfl, c0, c1, c2, hi⟩ := HG.out k x hx
          have g1 := HS.out k x hx
          have HX := Lib.hid (ItemIs.below HB.out (Nat.le_refl _) _ _ hi)
          have q0 : wr.cell? (a.add (k * 3)) = some (.bool l') := by rw [HB.out.cell (block_lt_of_cell c0)]; exact c0
          have q1 : wr.cell? ⟨(a.add (k * 3)).block, (a.add (k * 3)).off + 1, none⟩ = some (.string b') := by
            have e : (⟨(a.add (k * 3)).block, (a.add (k * 3)).off + 1, none⟩ : Addr) = a.add (k * 3 + 1) := by rw [← Go.Deep.add_add]; rfl
            rw [e, HB.out.cell (block_lt_of_cell c1)]
            exact c1
          have q2 : wr.cell? ⟨(a.add (k * 3)).block, (a.add (k * 3)).off + 2, none⟩ = some (.slice p' n' c') := by
            have e : (⟨(a.add (k * 3)).block, (a.add (k * 3)).off + 2, none⟩ : Addr) = a.add (k * 3 + 2) := by rw [← Go.Deep.add_add]; rfl
            rw [e, HB.out.cell (block_lt_of_cell c2)]
            exact c2
          clear hi c0 c1 c2
          have L : Hid (RowAt (wr.alloc (itemO l' b' (.slice p' n' c'))) wr.heap.size #[.bool l', .string b', .slice p' n' c'] 98) := Lib.hid (RowAt.new _ _ _)
          replace HB := Lib.hid (HB.out.alloc HB.out.size (itemO l' b' (.slice p' n' c')))
          replace HX := Lib.hid (ItemIs.below ((Below.refl wr.heap.size wr).alloc (Nat.le_refl _) (itemO l' b' (.slice p' n' c'))) (Nat.le_refl _) _ _ HX.out)
          replace HO := Lib.hid (bld_below HO.out ((Below.refl wr.heap.size wr).alloc (Nat.le_refl _) (itemO l' b' (.slice p' n' c'))) (Nat.le_refl _))
          have HD1 := Lib.hid (HD.out k x hx)
          have hz1 := HL.out (k + 1)
          rw [HD1.out, List.length_append] at hz1
          have hz3 : (mkS x.write).size = x.write.length := mk_size _
          have hz4 : (Lib.byteCells (writes (ks.take k))).length = (writes (ks.take k)).length := Lib.byteCells_length _
          have HE1 : Hid (Lib.byteCells (writes (ks.take k)) ++ Lib.strCells (mkS x.write) = Lib.byteCells (writes (ks.take k) ++ x.write)) := Lib.hid (Lib.byteCells_append _ _).symm
          have hxl : x.write.length ≤ 1000000000 := by omega
          obtain ⟨a0, a1, a2, af0, af1, af2⟩ := L.out.c3
          go_wp2_with fail
          refine (KI.out x g1 hxl _ _ HX.out).mono ?_
          rintro e w2 ⟨rfl, hb⟩
          replace HO := Lib.hid (bld_below HO.out hb (Nat.le_refl _))
          have hz5 : wr.heap.size + 1 ≤ w2.heap.size := by have := hb.size; simpa using this
          (replace HB := Lib.hid (HB.out.trans (hb.mono HB.out.size)); clear hb)
          go_wp2_with fail
          refine (bld_write _ _ _ _ _ HO.out (by rw [hz4, hz3]; omega) (by omega)).mono ?_
          rintro e w3 ⟨rfl, hob, hb⟩
          have HO3 := Lib.hid hob
          have HB3 := Lib.hid (HB.out.trans (hb.mono (by omega)))
          have hz6 := hb.size
          clear hob hb HO HB
          go_wp2_with fail
          go_roundw
          case rel => exact ⟨k + 1, by omega, by go_num, by rw [HD1.out, ← HE1.out]; exact .inr HO3.out, HB3.out, by omega⟩
          case measure => simp [intOf]; omega
        · obtain rfl : k = m := by omega
          rw [DM.out] at HO
          have hz4 : (Lib.byteCells (writes ks)).length = (writes ks).length := Lib.byteCells_length _
          go_wp2_with fail
          refine (bld_len _ _ _ _ HO.out).mono ?_
          rintro e w2 ⟨rfl, rfl⟩
          rw [hz4]
          go_wp2_with fail
          refine (KH.out _).mono ?_
          rintro e w2 ⟨rfl, hb⟩
          replace HO := Lib.hid (bld_below HO.out hb (Nat.le_refl _))
          have hz5 := hb.size
          (replace HB := Lib.hid (HB.out.trans (hb.mono HB.out.size)); clear hb)
          go_wp2_with fail
          refine (bld_string _ _ _ _ HO.out (by omega)).mono ?_
          rintro e w3 ⟨rfl, hb⟩
          have HB3 := Lib.hid (HB.out.trans (hb.mono (by omega)))
          clear hb HO HB
          rw [show (⟨(writes ks).toArray⟩ : ByteArray) = mkS (writes ks) from rfl]
          generalize writes ks = W at *
          generalize mkS W = WS at *
          generalize mkS (headL 192 W.length) = HS' at *
          go_wp2_with fail
          go_ret
          exact ⟨by rw [← HE.out]; rfl, HB3.out⟩
end Go.Proofs.Ytefmlbckbhlgdaa
namespace Go.Proofs.Ytefmlbckbhlgdaa
open Go.RowKit
set_option maxRecDepth 100000
/-- What an item is encoded as: bytes, and the error's number. -/
def It.enc (x : It) : List UInt8 × Int :=
  if (x.pureB && decide (x.size ≤ 4000)) = false then ([], 1) else if 8 < x.depth then ([], 5) else if 4000 < x.write.length then ([], 2) else (x.write, 0)

set_option maxRecDepth 100000 in
set_option maxHeartbeats 1000000 in
theorem encode_any (x : It) (v : Value) (w : World) (hx : ItemIs w x v) (hw : x.pureB = true → x.size ≤ 4000 → x.write.length ≤ 1000000000) :
    Calls Try.prog 45 #[v] w fun e w' => e = .returned (.tuple #[.string (mkS x.enc.1), .int .i64 x.enc.2]) ∧ Below w.heap.size w w' := by
  obtain ⟨⟨l, b, p, n, c⟩, rfl⟩ := itemIs_val hx
  have HX : ∀ W, Below w.heap.size w W → ItemIs W x (.agg #[.bool l, .string b, .slice p n c]) := fun W h => ItemIs.below h (Nat.le_refl _) _ _ hx
  have HI := Lib.hid HX
  have L : Hid (RowAt (w.alloc (ivO (l, b, p, n, c))) w.heap.size #[.bool l, .string b, .slice p n c] 98) := Lib.hid (RowAt.new _ _ _)
  have B : Hid (Below w.heap.size w (w.alloc (ivO (l, b, p, n, c)))) := Lib.hid ((Below.refl _ _).alloc (Nat.le_refl _) _)
  show Calls Try.prog 45 #[.agg #[.bool l, .string b, .slice p n c]] w _
  have K1 := Lib.hid (fun W h => well_any x (.agg #[.bool l, .string b, .slice p n c]) W (HX W h))
  cases hwell : (x.pureB && decide (x.size ≤ 4000)) with
  | false =>
    have HE : Hid (x.enc = ([], 1)) := Lib.hid (by rw [It.enc, if_pos hwell])
    rw [hwell] at K1
    clear hx HX hw hwell
    obtain ⟨a0, a1, a2, af0, af1, af2⟩ := L.out.c3
    go_enter Try.func45, Try.ntmps45
    go_wp2_with fail
    refine (K1.out _ B.out).mono ?_
    rintro e w2 ⟨rfl, hb⟩
    (replace B := Lib.hid (B.out.trans (hb.mono B.out.size)); clear hb)
    go_wp2
    go_ret2
    rw [HE.out]
    exact ⟨rfl, B.out⟩
  | true =>
    rw [hwell] at K1
    have hwell' := hwell
    rw [Bool.and_eq_true, decide_eq_true_eq] at hwell'
    have K2 := Lib.hid (fun W h => deep_any x.size x (Nat.le_refl _) ((pureB_iff x).1 hwell'.1) (by omega) (.agg #[.bool l, .string b, .slice p n c]) W (HX W h))
    have K3 := Lib.hid (fun W h => write_any x.size x (Nat.le_refl _) (hw hwell'.1 hwell'.2) (.agg #[.bool l, .string b, .slice p n c]) W (HX W h))
    have hwl := hw hwell'.1 hwell'.2
    have HE0 : Hid (x.enc = if 8 < x.depth then ([], 5) else if 4000 < x.write.length then ([], 2) else (x.write, 0)) := Lib.hid (by rw [It.enc, if_neg (by rw [hwell]; simp)])
    have hz : (mkS x.write).size = x.write.length := mk_size _
    clear hx HX hw hwell hwell'
    generalize hd : x.depth = d at *
    generalize hxw : x.write = xw at *
    clear hd hxw
    generalize xw.length = n' at *
    by_cases hd : 8 < d
    · have HE : Hid (x.enc = ([], 5)) := Lib.hid (by rw [HE0.out, if_pos hd])
      obtain ⟨a0, a1, a2, af0, af1, af2⟩ := L.out.c3
      go_enter Try.func45, Try.ntmps45
      go_wp2_with fail
      refine (K1.out _ B.out).mono ?_
      rintro e w2 ⟨rfl, hb⟩
      clear a0 a1 a2 af0 af1 af2
      (replace L := Lib.hid (L.out.belowS hb); replace B := Lib.hid (B.out.trans (hb.mono B.out.size)); clear hb)
      obtain ⟨a0, a1, a2, af0, af1, af2⟩ := L.out.c3
      go_wp2_with fail
      refine (K2.out _ B.out).mono ?_
      rintro e w2 ⟨rfl, hb⟩
      (replace B := Lib.hid (B.out.trans (hb.mono B.out.size)); clear hb)
      go_wp2
      go_ret2
      rw [HE.out]
      exact ⟨rfl, B.out⟩
    · by_cases hn : 4000 < n'
      · have HE : Hid (x.enc = ([], 2)) := Lib.hid (by rw [HE0.out, if_neg hd, if_pos hn])
        obtain ⟨a0, a1, a2, af0, af1, af2⟩ := L.out.c3
        go_enter Try.func45, Try.ntmps45
        go_wp2_with fail
        refine (K1.out _ B.out).mono ?_
        rintro e w2 ⟨rfl, hb⟩
        clear a0 a1 a2 af0 af1 af2
        (replace L := Lib.hid (L.out.belowS hb); replace B := Lib.hid (B.out.trans (hb.mono B.out.size)); clear hb)
        obtain ⟨a0, a1, a2, af0, af1, af2⟩ := L.out.c3
        go_wp2_with fail
        refine (K2.out _ B.out).mono ?_
        rintro e w3 ⟨rfl, hb⟩
        clear a0 a1 a2 af0 af1 af2
        (replace L := Lib.hid (L.out.belowS hb); replace B := Lib.hid (B.out.trans (hb.mono B.out.size)); clear hb)
        obtain ⟨a0, a1, a2, af0, af1, af2⟩ := L.out.c3
        go_wp2_with fail
        refine (K3.out _ B.out).mono ?_
        rintro e w4 ⟨rfl, hb⟩
        (replace B := Lib.hid (B.out.trans (hb.mono B.out.size)); clear hb)
        go_wp2
        go_ret2
        rw [HE.out]
        exact ⟨rfl, B.out⟩
      · have HE : Hid (x.enc = (xw, 0)) := Lib.hid (by rw [HE0.out, if_neg hd, if_neg hn])
        obtain ⟨a0, a1, a2, af0, af1, af2⟩ := L.out.c3
        go_enter Try.func45, Try.ntmps45
        go_wp2_with fail
        refine (K1.out _ B.out).mono ?_
        rintro e w2 ⟨rfl, hb⟩
        clear a0 a1 a2 af0 af1 af2
        (replace L := Lib.hid (L.out.belowS hb); replace B := Lib.hid (B.out.trans (hb.mono B.out.size)); clear hb)
        obtain ⟨a0, a1, a2, af0, af1, af2⟩ := L.out.c3
        go_wp2_with fail
        refine (K2.out _ B.out).mono ?_
        rintro e w3 ⟨rfl, hb⟩
        clear a0 a1 a2 af0 af1 af2
        (replace L := Lib.hid (L.out.belowS hb); replace B := Lib.hid (B.out.trans (hb.mono B.out.size)); clear hb)
        obtain ⟨a0, a1, a2, af0, af1, af2⟩ := L.out.c3
        go_wp2_with fail
        refine (K3.out _ B.out).mono ?_
        rintro e w4 ⟨rfl, hb⟩
        (replace B := Lib.hid (B.out.trans (hb.mono B.out.size)); clear hb)
        go_wp2
        go_ret2
        rw [HE.out]
        exact ⟨rfl, B.out⟩
end Go.Proofs.Ytefmlbckbhlgdaa
namespace Go.Proofs.Ytefmlbckbhlgdaa
open Go.RowKit
set_option maxRecDepth 100000
end Go.Proofs.Ytefmlbckbhlgdaa
namespace Go.Proofs.Ytefmlbckbhlgdaa
open Go.RowKit
set_option maxRecDepth 100000
/-- No 0 stands ahead. -/
def canonB (l : List UInt8) : Bool := l.isEmpty || decide (l.getD 0 0 ≠ 0)

/-- An item's number, and the error's. -/
def It.value : It → Nat × Int
  | .mk l b ks => if (l || !ks.isEmpty || decide (8 < b.length) || !canonB b) = true then (0, 4) else (valL b, 0)

end Go.Proofs.Ytefmlbckbhlgdaa
namespace Go.Proofs.Ytefmlbckbhlgdaa
open Go.RowKit
set_option maxRecDepth 100000
mutual
/-- The value reads as the item, all of whose cells lie in blocks of a class. -/
def ItemP (A : Nat → Prop) (w : World) : It → Value → Prop
  | .mk l b ks, v => ∃ kv, v = itemV l b kv ∧ b.length ≤ 9223372036854775807 ∧
      ((kv = .slice none 0 0 ∧ ks = []) ∨ ∃ (a : Addr) (len cap : Nat), kv = .slice (some a) len cap ∧ len ≤ cap ∧ cap ≤ 9223372036854775807 ∧ ks.length = len ∧ KidsP A w ks a 0)
def KidsP (A : Nat → Prop) (w : World) : List It → Addr → Nat → Prop
  | [], _, _ => True
  | k :: ks, a, i => (A a.block ∧ ∃ v0 v1 v2, w.cell? (a.add (i * 3)) = some v0 ∧ w.cell? (a.add (i * 3 + 1)) = some v1 ∧ w.cell? (a.add (i * 3 + 2)) = some v2 ∧ ItemP A w k (.agg #[v0, v1, v2])) ∧ KidsP A w ks a (i + 1)
end
mutual
theorem ItemP.is {A : Nat → Prop} {w : World} : ∀ (x : It) (v : Value), ItemP A w x v → ItemIs w x v
  | .mk l b ks, v, h => by
    rw [ItemP] at h
    rw [ItemIs]
    obtain ⟨kv, e, h1, h2⟩ := h
    refine ⟨kv, e, h1, ?_⟩
    rcases h2 with h2 | ⟨a, len, cap, g1, g2, g3, g4, g5⟩
    · exact .inl h2
    · exact .inr ⟨a, len, cap, g1, g2, g3, g4, KidsP.is ks a 0 g5⟩
theorem KidsP.is {A : Nat → Prop} {w : World} : ∀ (ks : List It) (a : Addr) (i : Nat), KidsP A w ks a i → KidsAt w ks a i
  | [], _, _, _ => by rw [KidsAt]; trivial
  | k :: ks, a, i, h => by
    rw [KidsP] at h
    rw [KidsAt]
    obtain ⟨⟨_, v0, v1, v2, c0, c1, c2, hi⟩, ht⟩ := h
    exact ⟨⟨v0, v1, v2, c0, c1, c2, ItemP.is k _ hi⟩, KidsP.is ks a (i + 1) ht⟩
end
mutual
theorem ItemP.keep {A A' : Nat → Prop} {w w' : World} (hk : ∀ (a : Addr) (v : Value), A a.block → w.cell? a = some v → w'.cell? a = some v ∧ A' a.block) : ∀ (x : It) (v : Value), ItemP A w x v → ItemP A' w' x v
  | .mk l b ks, v, h => by
    rw [ItemP] at h ⊢
    obtain ⟨kv, e, h1, h2⟩ := h
    refine ⟨kv, e, h1, ?_⟩
    rcases h2 with h2 | ⟨a, len, cap, g1, g2, g3, g4, g5⟩
    · exact .inl h2
    · exact .inr ⟨a, len, cap, g1, g2, g3, g4, KidsP.keep hk ks a 0 g5⟩
theorem KidsP.keep {A A' : Nat → Prop} {w w' : World} (hk : ∀ (a : Addr) (v : Value), A a.block → w.cell? a = some v → w'.cell? a = some v ∧ A' a.block) : ∀ (ks : List It) (a : Addr) (i : Nat), KidsP A w ks a i → KidsP A' w' ks a i
  | [], _, _, _ => by rw [KidsP]; trivial
  | k :: ks, a, i, h => by
    rw [KidsP] at h ⊢
    obtain ⟨⟨hA, v0, v1, v2, c0, c1, c2, hi⟩, ht⟩ := h
    have hb : ∀ n, A (a.add n).block := fun n => by rw [addr_add_block]; exact hA
    have k0 := hk _ _ (hb _) c0
    refine ⟨⟨by have := k0.2; rwa [addr_add_block] at this, v0, v1, v2, k0.1, (hk _ _ (hb _) c1).1, (hk _ _ (hb _) c2).1, ItemP.keep hk k _ hi⟩, KidsP.keep hk ks a (i + 1) ht⟩
end
/-- Items in triples, as QIs. -/
def QP (A : Nat → Prop) (w : World) : List It → List IV → Prop
  | [], [] => True
  | k :: q, x :: l => ItemP A w k x.val ∧ QP A w q l
  | _, _ => False

theorem QP.length {A : Nat → Prop} {w : World} : ∀ {q : List It} {l : List IV}, QP A w q l → q.length = l.length
  | [], [], _ => rfl
  | k :: q, x :: l, h => by rw [List.length_cons, List.length_cons, QP.length h.2]
  | [], _ :: _, h => by cases h
  | _ :: _, [], h => by cases h
theorem QP.snoc {A : Nat → Prop} {w : World} {k : It} {x : IV} (h' : ItemP A w k x.val) : ∀ {q : List It} {l : List IV}, QP A w q l → QP A w (q ++ [k]) (l ++ [x])
  | [], [], _ => ⟨h', trivial⟩
  | k :: q, x :: l, h => ⟨h.1, QP.snoc h' h.2⟩
  | [], _ :: _, h => by cases h
  | _ :: _, [], h => by cases h
theorem QP.keep {A A' : Nat → Prop} {w w' : World} (hk : ∀ (a : Addr) (v : Value), A a.block → w.cell? a = some v → w'.cell? a = some v ∧ A' a.block) : ∀ {q : List It} {l : List IV}, QP A w q l → QP A' w' q l
  | [], [], _ => trivial
  | k :: q, x :: l, h => ⟨ItemP.keep hk k _ h.1, QP.keep hk h.2⟩
  | [], _ :: _, h => by cases h
  | _ :: _, [], h => by cases h

theorem ItemP.triple {A : Nat → Prop} {w : World} {k : It} {v : Value} (h : ItemP A w k v) : ∃ x : IV, v = x.val := itemIs_val (ItemP.is k v h)

/-- A row of kids that the call has made is a list's kids. -/
theorem QP.kids {A : Nat → Prop} {w : World} {g : Nat} (hA : A g) : ∀ {q : List It} {l : List IV} (i : Nat), QP A w q l → (∀ j u, (flat3 l)[j]? = some u → w.cell? ⟨g, i * 3 + j, none⟩ = some u) → KidsP A w q ⟨g, 0, none⟩ i
  | [], [], i, _, _ => by rw [KidsP]; trivial
  | k :: q, x :: l, i, h, hc => by
    have hadd : ∀ n, (⟨g, 0, none⟩ : Addr).add n = ⟨g, n, none⟩ := fun n => by unfold Addr.add; split <;> simp_all
    rw [KidsP]
    refine ⟨⟨hA, .bool x.1, .string x.2.1, x.kids, ?_, ?_, ?_, h.1⟩, QP.kids hA (i + 1) h.2 fun j u hj => ?_⟩
    · rw [hadd]; exact hc 0 _ rfl
    · rw [hadd]; exact hc 1 _ rfl
    · rw [hadd]; exact hc 2 _ rfl
    · have := hc (j + 3) u (by rw [flat3]; simpa [cells3] using hj)
      rwa [show i * 3 + (j + 3) = (i + 1) * 3 + j by omega] at this
  | [], _ :: _, _, h, _ => by cases h
  | _ :: _, [], _, h, _ => by cases h

theorem OwnQ.item {A : Nat → Prop} {w : World} {base : Nat} {kv : Value} {ks : List It} {lv : List IV} (h : OwnQ w base kv lv) (hA : ∀ g, kv.ownBlock = some g → A g) (hq : QP A w ks lv) : ItemP A w (.mk true [] ks) (.agg #[.bool true, .string ⟨#[]⟩, kv]) := by
  have hl := hq.length
  rw [ItemP]
  refine ⟨kv, rfl, by simp, ?_⟩
  rcases h.2 with ⟨hv, hn⟩ | ⟨g, cap, cur, hv, hg, hc, hn, hcap, hsz, hx⟩
  · exact .inl ⟨by rw [hv], List.eq_nil_of_length_eq_zero (by omega)⟩
  · refine .inr ⟨⟨g, 0, none⟩, lv.length, cap, hv, hn, hcap, hl, QP.kids (hA g (by rw [hv]; rfl)) 0 hq fun j u hj => ?_⟩
    have := World.ownsRow.cells h (by rw [hv]; rfl) j u hj
    have hadd : (⟨g, 0, none⟩ : Addr).add j = ⟨g, j, none⟩ := by unfold Addr.add; split <;> simp_all
    rw [hadd] at this
    simpa using this

end Go.Proofs.Ytefmlbckbhlgdaa
namespace Go.Proofs.Ytefmlbckbhlgdaa
open Go.RowKit
set_option maxRecDepth 100000
/-- Behind some kids: the result's cells, the list's cells, its kids. -/
structure KSt (w wr : World) (kv : Value) (ks : List It) (lv : List IV) : Prop where
  rowG : RowAt wr w.heap.size #[.bool false, .string ⟨#[]⟩, .slice none 0 0] 98
  rowX : RowAt wr (w.heap.size + 1) #[.bool true, .string ⟨#[]⟩, kv] 98
  own : OwnQ wr (w.heap.size + 2) kv lv
  kids : QP (fun b => w.heap.size + 2 ≤ b ∧ kv.ownBlock ≠ some b) wr ks lv
  below : Below w.heap.size w wr

theorem KSt.at4 {w wr w4 : World} {kv : Value} {ks : List It} {lv : List IV} (h : KSt w wr kv ks lv) (hb : Below wr.heap.size wr w4) :
    RowAt w4 w.heap.size #[.bool false, .string ⟨#[]⟩, .slice none 0 0] 98 ∧ RowAt w4 (w.heap.size + 1) #[.bool true, .string ⟨#[]⟩, kv] 98 ∧ OwnQ w4 (w.heap.size + 2) kv lv ∧ Below w.heap.size w w4 :=
  ⟨h.rowG.belowS hb, h.rowX.belowS hb, h.own.below hb (Nat.le_refl _), h.below.trans (hb.mono h.below.size)⟩

theorem KSt.ownlt {w wr : World} {kv : Value} {ks : List It} {lv : List IV} (h : KSt w wr kv ks lv) : ∀ g, kv.ownBlock = some g → w.heap.size + 2 ≤ g ∧ g < wr.heap.size := fun g hg => World.ownsRow.lt h.own g hg

theorem KSt.at5 {w wr w4 w5 : World} {kv : Value} {ks : List It} {lv : List IV} (h : KSt w wr kv ks lv) (hb : Below wr.heap.size wr w4) (hg : w4.grownBy w5 kv.ownBlock) :
    RowAt w5 (w.heap.size + 1) #[.bool true, .string ⟨#[]⟩, kv] 98 := by
  obtain ⟨_, h2, _, _⟩ := h.at4 hb
  refine h2.grown hg fun e => ?_
  have := (h.ownlt _ e.symm).1
  omega

theorem KSt.step {w wr w4 w5 : World} {kv kv' : Value} {ks : List It} {lv : List IV} {k : It} {y : IV} (h : KSt w wr kv ks lv) (hb : Below wr.heap.size wr w4) (hk : ItemP (fun b => wr.heap.size ≤ b) w4 k y.val)
    (own5 : OwnQ w5 (w.heap.size + 2) kv' (lv ++ [y])) (hg : w4.grownBy w5 kv.ownBlock) (hn : ∀ g, kv'.ownBlock = some g → kv.ownBlock = some g ∨ w4.heap.size ≤ g) :
    KSt w (w5.setCell ⟨w.heap.size + 1, 2, none⟩ kv') kv' (ks ++ [k]) (lv ++ [y]) := by
  obtain ⟨h1, h2, h3, h4⟩ := h.at4 hb
  have hlt := h.ownlt
  have hwr := h.rowX.lt
  have hown5 : ∀ g, kv'.ownBlock = some g → w.heap.size + 2 ≤ g := fun g e => (World.ownsRow.lt own5 g e).1
  refine ⟨?_, ?_, ?_, ?_, ?_⟩
  · refine (h1.grown hg fun e => ?_).other _ _ (by simp)
    have := (hlt _ e.symm).1
    omega
  · exact (h.at5 hb hg).set 2 kv' rfl
  · refine ownsRow_setCell_below own5 (by simp) kv'
  · have hset : ∀ (a : Addr) (v : Value), a.block ≠ w.heap.size + 1 → w5.cell? a = some v → (w5.setCell ⟨w.heap.size + 1, 2, none⟩ kv').cell? a = some v := fun a v hne hc => by
      rw [World.cell?_of_block (w := w5) (heap_setCell_other _ _ _ _ hne)]
      exact hc
    refine QP.snoc ?_ (QP.keep ?_ h.kids)
    · refine ItemP.keep ?_ _ _ hk
      intro a v hA hc
      have hal := block_lt_of_cell hc
      refine ⟨hset a v (by omega) (hg.cell hc fun e => ?_), by omega, fun e => ?_⟩
      · have := (hlt _ e.symm).2; omega
      · rcases hn _ e with e | e
        · have := (hlt _ e).2; omega
        · omega
    · intro a v hA hc
      have hal := block_lt_of_cell hc
      have hc4 : w4.cell? a = some v := by rw [hb.cell hal]; exact hc
      have h4s := hb.size
      refine ⟨hset a v (by omega) (hg.cell hc4 fun e => hA.2 e.symm), hA.1, fun e => ?_⟩
      rcases hn _ e with e | e
      · exact hA.2 e
      · omega
  · refine (h4.grown hg h4.size fun g e => ?_).setCell (p := ⟨w.heap.size + 1, 2, none⟩) (by simp) kv'
    have := (hlt _ e).1
    omega

/-- In the end the list is an item. -/
theorem KSt.done {w wr : World} {kv : Value} {ks : List It} {lv : List IV} (h : KSt w wr kv ks lv) (v0 v1 v2 : Value) :
    ItemP (fun b => w.heap.size ≤ b) (((wr.setCell ⟨w.heap.size, 0, none⟩ v0).setCell ⟨w.heap.size, 1, none⟩ v1).setCell ⟨w.heap.size, 2, none⟩ v2) (.mk true [] ks) (.agg #[.bool true, .string ⟨#[]⟩, kv]) ∧
    Below w.heap.size w (((wr.setCell ⟨w.heap.size, 0, none⟩ v0).setCell ⟨w.heap.size, 1, none⟩ v1).setCell ⟨w.heap.size, 2, none⟩ v2) := by
  have hi : ItemP (fun b => w.heap.size + 2 ≤ b) wr (.mk true [] ks) (.agg #[.bool true, .string ⟨#[]⟩, kv]) := OwnQ.item h.own (fun g e => (h.ownlt g e).1) (QP.keep (fun a v hA hc => ⟨hc, hA.1⟩) h.kids)
  refine ⟨ItemP.keep (fun a v hA hc => ⟨?_, by omega⟩) _ _ hi, ((h.below.setCell (p := ⟨w.heap.size, 0, none⟩) (Nat.le_refl _) _).setCell (p := ⟨w.heap.size, 1, none⟩) (Nat.le_refl _) _).setCell (p := ⟨w.heap.size, 2, none⟩) (Nat.le_refl _) _⟩
  have hne : a.block ≠ w.heap.size := by omega
  rw [World.cell?_of_block (heap_setCell_other _ _ _ _ hne), World.cell?_of_block (heap_setCell_other _ _ _ _ hne), World.cell?_of_block (heap_setCell_other _ _ _ _ hne)]
  exact hc

theorem read_less {f : Nat} {s : List UInt8} {x : It} {t : List UInt8} (h : readL f s = some (x, t)) : t.length < s.length := by
  obtain ⟨e, hp⟩ := (read_sound f).1 _ _ _ h
  have := write_pos x hp
  rw [e, List.length_append]
  omega

/-- Some kids have been read: what is left of the bytes. -/
structure KInv (n : Nat) (body rest : List UInt8) (ks : List It) (m : Nat) : Prop where
  enough : 2 * rest.length ≤ m
  most : m ≤ n
  few : ks.length + rest.length ≤ 4100
  same : kidsL n body = (match kidsL m rest with | none => none | some ks' => some (ks ++ ks'))

theorem KInv.start {n : Nat} {body : List UInt8} (h : 2 * body.length ≤ n) (h' : body.length ≤ 4100) : KInv n body body [] n :=
  ⟨h, Nat.le_refl _, by simpa using h', by cases kidsL n body <;> rfl⟩
theorem KInv.more {n m : Nat} {body rest : List UInt8} {ks : List It} (h : KInv n body rest ks m) (hr : rest ≠ []) : ∃ m', m = m' + 1 ∧ 2 * rest.length ≤ m' + 1 ∧ m' < n + 1 := by
  have h0 := List.length_pos_iff.2 hr
  have h1 := h.enough
  have h2 := h.most
  exact ⟨m - 1, by omega, by omega, by omega⟩
theorem KInv.step {n m : Nat} {body rest t : List UInt8} {ks : List It} {k : It} (h : KInv n body rest ks (m + 1)) (hr : rest ≠ []) (hn : readL m rest = some (k, t)) : KInv n body t (ks ++ [k]) m := by
  have hl := read_less hn
  have h1 := h.enough
  have h2 := h.most
  have h3 := h.few
  refine ⟨by omega, by omega, by rw [List.length_append, List.length_singleton]; omega, ?_⟩
  rw [h.same]
  cases rest with
  | nil => exact absurd rfl hr
  | cons c t' =>
    rw [kidsL, hn]
    simp only
    cases kidsL m t <;> simp
theorem KInv.done {n m : Nat} {body : List UInt8} {ks : List It} (h : KInv n body [] ks m) : kidsL n body = some ks := by
  rw [h.same]
  have : kidsL m [] = some [] := by cases m <;> rfl
  rw [this]
  simp
end Go.Proofs.Ytefmlbckbhlgdaa
namespace Go.Proofs.Ytefmlbckbhlgdaa
open Go.RowKit
set_option maxRecDepth 100000
end Go.Proofs.Ytefmlbckbhlgdaa
namespace Go.Proofs.Ytefmlbckbhlgdaa
open Go.RowKit
/-- A field: a number, bytes, fields; a kind: its sign, and what it is of. -/
abbrev Fd := Tr (Nat × List UInt8)
abbrev Kd := Tr UInt8

mutual
def Tr.count {α : Type} : Tr α → Nat
  | .mk _ ks => 1 + counts ks
def counts {α : Type} : List (Tr α) → Nat
  | [] => 0
  | k :: ks => k.count + counts ks
end
def leafK (c : UInt8) : Bool := decide (c = 110) || decide (c = 104) || decide (c = 97) || decide (c = 115) || decide (c = 98)
def sizeK (c : UInt8) : Int := if c = 104 then 32 else if c = 97 then 20 else if c = 115 then 65 else -1

mutual
/-- A field as an item by its kind; none: it does not fit. -/
def itemK : Kd → Fd → Option It
  | .mk c ks, .mk (n, b) l =>
    if c = 110 then (if b = [] ∧ l = [] then some (.mk false (dig n) []) else none)
    else if c = 98 then (if n = 0 ∧ l = [] ∧ b.length ≤ 64 then some (.mk false b []) else none)
    else if c = 42 then (if n = 0 ∧ b = [] ∧ l.length ≤ 40 then (starI ks l).map (.mk true []) else none)
    else if c = 40 then (if n = 0 ∧ b = [] then (rowI ks l).map (.mk true []) else none)
    else (if n = 0 ∧ l = [] ∧ (b.length : Int) = sizeK c then some (.mk false b []) else none)
def starI : List Kd → List Fd → Option (List It)
  | [], _ => none
  | k :: _, l => l.mapM (itemK k)
def rowI : List Kd → List Fd → Option (List It)
  | [], [] => some []
  | k :: ks, f :: l => (itemK k f).bind fun x => (rowI ks l).map (x :: ·)
  | [], _ :: _ => none
  | _ :: _, [] => none
end
end Go.Proofs.Ytefmlbckbhlgdaa
namespace Go.Proofs.Ytefmlbckbhlgdaa
open Go.RowKit
def encK : TE UInt8 := ⟨1, fun c => [.int .u8 c.toNat], fun _ => rfl, fun a u h => by simp at h; subst h; rfl⟩
def encFd : TE (Nat × List UInt8) := ⟨2, fun a => [.int .u64 a.1, .string (mkS a.2)], fun _ => rfl, fun a u h => by simp at h; rcases h with rfl | rfl <;> rfl⟩
/-- How the reading of a kind ends. -/
def OnePost (r : Option (Kd × Nat)) (w : World) (e : Ending) (w' : World) : Prop :=
  match r with
  | none => ∃ c p m q n, e = .returned (.tuple #[.agg #[.int .u8 c, .slice p m q], .int .i64 n, .bool false]) ∧ Below w.heap.size w w'
  | some (k, n) => ∃ p m q, e = .returned (.tuple #[.agg #[.int .u8 k.val.toNat, .slice p m q], .int .i64 n, .bool true]) ∧ RowT encK (fun b => w.heap.size ≤ b) w' (.slice p m q) k.kids ∧ Below w.heap.size w w'
end Go.Proofs.Ytefmlbckbhlgdaa
namespace Go.Proofs.Ytefmlbckbhlgdaa
open Go.RowKit
theorem OnePost.parts {r : Option (Kd × Nat)} {w w' : World} {e : Ending} (h : OnePost r w e w') : ∃ c p m q n is, e = .returned (.tuple #[.agg #[.int .u8 c, .slice p m q], .int .i64 n, .bool is]) ∧ Below w.heap.size w w' ∧
    ((r = none ∧ is = false) ∨ ∃ k n', r = some (k, n') ∧ is = true ∧ n = (n' : Int) ∧ c = (k.val.toNat : Int) ∧ Hid (RowT encK (fun b => w.heap.size ≤ b) w' (.slice p m q) k.kids)) := by
  cases r with
  | none =>
    obtain ⟨c, p, m, q, n, rfl, hb⟩ := h
    exact ⟨c, p, m, q, n, false, rfl, hb, .inl ⟨rfl, rfl⟩⟩
  | some kn =>
    obtain ⟨p, m, q, rfl, hr, hb⟩ := h
    exact ⟨_, p, m, q, _, true, rfl, hb, .inr ⟨kn.1, kn.2, rfl, rfl, rfl, rfl, Lib.hid hr⟩⟩

end Go.Proofs.Ytefmlbckbhlgdaa
namespace Go.Proofs.Ytefmlbckbhlgdaa
open Go.RowKit
theorem counts_append {α : Type} : ∀ (a b : List (Tr α)), counts (a ++ b) = counts a + counts b
  | [], b => by simp [counts]
  | x :: a, b => by rw [List.cons_append, counts, counts, counts_append a b]; omega
theorem count_pos {α : Type} (t : Tr α) : 1 + counts t.kids = t.count := by
  cases t with
  | mk a ks => rw [Tr.count]
theorem counts_len {α : Type} : ∀ a : List (Tr α), a.length ≤ counts a
  | [] => Nat.le_refl _
  | x :: a => by have := counts_len a; have := count_pos x; rw [counts, List.length_cons]; omega
end Go.Proofs.Ytefmlbckbhlgdaa
namespace Go.Proofs.Ytefmlbckbhlgdaa
open Go.RowKit
def encIt : TE (Bool × List UInt8) := ⟨2, fun a => [.bool a.1, .string (mkS a.2)], fun _ => rfl, fun a u h => by simp at h; rcases h with rfl | rfl <;> rfl⟩
mutual
def itT : It → Tr (Bool × List UInt8)
  | .mk l b ks => .mk (l, b) (itTs ks)
def itTs : List It → List (Tr (Bool × List UInt8))
  | [] => []
  | k :: ks => itT k :: itTs ks
end
/-- How the reading of a field as an item ends. -/
def ItemPost (r : Option It) (w : World) (e : Ending) (w' : World) : Prop :=
  ∃ l b p n c is, e = .returned (.tuple #[.agg #[.bool l, .string (mkS b), .slice p n c], .bool is]) ∧ Below w.heap.size w w' ∧
    ((r = none ∧ is = false) ∨ ∃ ks, r = some (.mk l b ks) ∧ is = true ∧ RowT encIt (fun b => w.heap.size ≤ b) w' (.slice p n c) (itTs ks))

end Go.Proofs.Ytefmlbckbhlgdaa
namespace Go.Proofs.Ytefmlbckbhlgdaa
open Go.RowKit
theorem RowT.sane {α : Type} {E : TE α} {A : Nat → Prop} {w : World} {p : Option Addr} {n c : Nat} {ts : List (Tr α)} (h : RowT E A w (.slice p n c) ts) : n = ts.length ∧ n ≤ c ∧ c ≤ maxLen := by
  obtain ⟨xs, hl, hr, _, _⟩ := h
  obtain ⟨h1, h2, h3, _⟩ := RowE.sane hr
  exact ⟨by omega, h2, h3⟩
theorem ItemPost.no {w w' : World} {l : Bool} {b : List UInt8} {p : Option Addr} {n c : Nat} (hb : Below w.heap.size w w') : ItemPost none w (.returned (.tuple #[.agg #[.bool l, .string (mkS b), .slice p n c], .bool false])) w' := ⟨l, b, p, n, c, false, rfl, hb, .inl ⟨rfl, rfl⟩⟩

end Go.Proofs.Ytefmlbckbhlgdaa
namespace Go.Proofs.Ytefmlbckbhlgdaa
open Go.RowKit
/-- A world later than 'W0' (the store has not come up yet) or than 'W1' (it has). -/
structure LB (W0 W1 : World) : Type where
  b : Bool
  w : World
  below : Below W0.heap.size (if b then W1 else W0) w

section
variable {P : Program} {ops : Array Oper} {md : Region.Mode} {W0 W1 : World} {s : Nat}
def LC (W0 W1 : World) (b : Bool) (w : World) : Prop := ∃ u : LB W0 W1, u.b = b ∧ w = u.w

/-- What is asked of the store. -/
def storeUpon (W1 : World) : Result Next → Prop
  | .ok .skip w' => ∃ u : Later W1, w' = u.w
  | _ => False

/-- What operation 'i' leaves in its temporary, in each world of the class. -/
def YieldsO (P : Program) (ops : Array Oper) (W0 W1 : World) (s i : Nat) (o : Oper) (v : Value) (a : Act) : Prop :=
  if i = s then Region.wanted o (yielded ops a.tmps) = true ∧ v = undef ∧ ∀ u : Later W0, storeUpon W1 ((execOp a.eval o).run P u.w)
  else (Region.wanted o (yielded ops a.tmps) = true ∧ ∀ u : LB W0 W1, o.quietAt P a (fun w' => LC W0 W1 u.b w') u.w v) ∨ (Region.wanted o (yielded ops a.tmps) = false ∧ v = undef)

theorem getD_set_same (l : Array Bool) (i : Nat) : (l.setIfInBounds i true).getD i true = true := by
  rcases Nat.lt_or_ge i l.size with h | h
  · simp [h]
  · simp

theorem YieldsO.of_same {i : Nat} {o : Oper} {v : Value} {a a' : Act} (hy : YieldsO P ops W0 W1 s i o v a) (he : execOp a'.eval o = execOp a.eval o)
    (hw : Region.wanted o (yielded ops a'.tmps) = Region.wanted o (yielded ops a.tmps)) : YieldsO P ops W0 W1 s i o v a' := by
  unfold YieldsO Oper.quietAt at *
  rw [he, hw]
  exact hy

instance lbNonempty (W0 W1 : World) : Nonempty (LB W0 W1) := ⟨⟨false, W0, Below.refl _ _⟩⟩

theorem LB.size (hs1 : W1.heap.size = W0.heap.size) (u : LB W0 W1) : W0.heap.size ≤ u.w.heap.size := by
  have := u.below.size
  split at this <;> omega
theorem LB.call (hs1 : W1.heap.size = W0.heap.size) {f : FuncId} {args : Array Value} {v : Value} {u : LB W0 W1} (h : Calls P f args u.w fun e w' => e = .returned v ∧ Below u.w.heap.size u.w w') :
    Calls P f args u.w fun e w'' => e = .returned v ∧ LC W0 W1 u.b w'' :=
  h.mono fun _ _ ⟨he, hb⟩ => ⟨he, ⟨u.b, _, u.below.trans (hb.mono (u.size hs1))⟩, rfl, rfl⟩
theorem RowAt.lb (_ : W1.heap.size = W0.heap.size) {k : Nat} {cs : Array Value} {T : TypeId} (h0 : RowAt W0 k cs T) (h1 : RowAt W1 k cs T) (u : LB W0 W1) : RowAt u.w k cs T := by
  have hb := u.below
  split at hb
  · exact h1.below hb h0.lt
  · exact h0.below hb h0.lt
/-- The same cells are written in a later world: it is later than the one in which they were. -/
theorem below_set {B : Nat} {W w : World} (h : Below B W w) (p : Addr) (v : Value) (_ : p.block < B) : Below B (W.setCell p v) (w.setCell p v) := by
  refine ⟨h.os, h.tape, h.output, ?_, fun k hk => ?_⟩
  · have := h.size
    simpa using this
  · have := h.block k hk
    unfold World.setCell
    simp only [Array.getElem?_modify]
    split
    · rename_i e
      rw [this]
    · exact this
theorem Later.set {W : World} (u : Later W) (p : Addr) (v : Value) (hp : p.block < W.heap.size) : ∃ u' : Later (W.setCell p v), u.w.setCell p v = u'.w :=
  ⟨Later.of (by rw [show (W.setCell p v).heap.size = W.heap.size by simp]; exact below_set u.below p v hp), rfl⟩
end
end Go.Proofs.Ytefmlbckbhlgdaa
namespace Go.Proofs.Ytefmlbckbhlgdaa
open Go.RowKit
theorem KidsAt.mk {w : World} {a : Addr} : ∀ (ks : List It) (j : Nat), (∀ i k, ks[i]? = some k → ∃ v0 v1 v2, w.cell? (a.add ((j + i) * 3)) = some v0 ∧ w.cell? (a.add ((j + i) * 3 + 1)) = some v1 ∧ w.cell? (a.add ((j + i) * 3 + 2)) = some v2 ∧ ItemIs w k (.agg #[v0, v1, v2])) → KidsAt w ks a j
  | [], _, _ => by rw [KidsAt]; trivial
  | k :: ks, j, h => by
    rw [KidsAt]
    refine ⟨h 0 k rfl, KidsAt.mk ks (j + 1) fun i k' hk => ?_⟩
    have := h (i + 1) k' (by simpa using hk)
    rwa [show j + (i + 1) = j + 1 + i by omega] at this
end Go.Proofs.Ytefmlbckbhlgdaa
namespace Go.Proofs.Ytefmlbckbhlgdaa
open Go.RowKit
/-- How the reading of an item as fields ends. -/
def FieldsPost (r : Option (List Fd)) (w : World) (e : Ending) (w' : World) : Prop :=
  ∃ (p : Option Addr) (m c : Nat) (is : Bool), e = .returned (.tuple #[.slice p m c, .bool is]) ∧ Below w.heap.size w w' ∧
    ((r = none ∧ is = false) ∨ ∃ ks, r = some ks ∧ is = true ∧ RowT encFd (fun b => w.heap.size ≤ b) w' (.slice p m c) ks)
end Go.Proofs.Ytefmlbckbhlgdaa
namespace Go.Proofs.Ytefmlbckbhlgdaa
open Go.RowKit
theorem FieldsPost.no {w w' : World} {p : Option Addr} {m c : Nat} (hb : Below w.heap.size w w') : FieldsPost none w (.returned (.tuple #[.slice p m c, .bool false])) w' := ⟨p, m, c, false, rfl, hb, .inl ⟨rfl, rfl⟩⟩

end Go.Proofs.Ytefmlbckbhlgdaa
namespace Go.Proofs.Ytefmlbckbhlgdaa
open Go.RowKit
end Go.Proofs.Ytefmlbckbhlgdaa
namespace Go.Proofs.Ytefmlbckbhlgdaa
open Go.RowKit
end Go.Proofs.Ytefmlbckbhlgdaa
namespace Go.Proofs.Ytefmlbckbhlgdaa
open Go.RowKit
end Go.Proofs.Ytefmlbckbhlgdaa
namespace Go.Proofs.Ytefmlbckbhlgdaa
open Go.RowKit Go.ChangeShapes Go.WideShapes Go.ChangeAt
set_option maxRecDepth 100000
/-- Two fields in a block of the call's own. -/
theorem RowT.two {A : Nat → Prop} {w : World} {t1 t2 : Fd} {s1 s2 : Sl} {g : Nat} {cs : Array Value} {T : TypeId} (hg : w.heap[g]? = some (.cells cs T (0, 0))) (hcs : cs.toList = encFd.pre t1.val ++ [slV s1] ++ (encFd.pre t2.val ++ [slV s2])) (hA : A g) (h1 : RowT encFd A w (slV s1) t1.kids) (h2 : RowT encFd A w (slV s2) t2.kids) :
    RowT encFd A w (.slice (some ⟨g, 0, none⟩) 2 2) [t1, t2] := by
  refine ⟨[(t1.val, s1), (t2.val, s2)], rfl, .inr ⟨⟨g, 0, none⟩, 2, rfl, Nat.le_refl _, by unfold maxLen; omega, fun j u hj => ?_⟩, fun _ ad n c e => by injection e with e _ _; injection e with e; subst e; exact hA, fun i t x e1 e2 => ?_⟩
  · have e : flat encFd.enc [(t1.val, s1), (t2.val, s2)] = cs.toList := by rw [hcs]; rfl
    rw [e, Array.getElem?_toList] at hj
    have : w.cell? ⟨g, j, none⟩ = cs[j]? := cell_of_row w g j cs T _ hg
    rw [← hj, ← this]
    cases j <;> simp [Addr.add]
  · match i, e1, e2 with
    | 0, e1, e2 =>
      simp at e1 e2
      subst e1 e2
      cases t1 with
      | mk a ks => exact RowT.node a h1
    | 1, e1, e2 =>
      simp at e1 e2
      subst e1 e2
      cases t2 with
      | mk a ks => exact RowT.node a h2
    | i + 2, e1, e2 => simp at e1

end Go.Proofs.Ytefmlbckbhlgdaa
