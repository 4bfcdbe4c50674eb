/- Rlp: the contract of well. -/
import Derived.Test.YtdeboidelgnffaaRlp8
import Derived.Deep.SlicePairs
namespace Go.Proofs.Ytdeboidelgnffaa
open Go.RowKit

theorem sizes_length : ∀ ks : List It, ks.length ≤ sizes ks
  | [] => Nat.le_refl _
  | k :: ks => by
    rw [sizes, List.length_cons]
    have := k.size_pos
    have := sizes_length ks
    omega

theorem puresB_append (xs ys : List It) : puresB (xs ++ ys) = (puresB xs && puresB ys) := by
  induction xs with
  | nil => simp [puresB]
  | cons x xs ih => rw [List.cons_append, puresB, puresB, ih, Bool.and_assoc]

/-- One step of the queue. -/
theorem queue_size {q : List It} {i : Nat} {l : Bool} {b : List UInt8} {ks : List It} (h : q[i]? = some (.mk l b ks)) {N : Nat} (hs : i + sizes (q.drop i) = N) : i + 1 + sizes ((q ++ ks).drop (i + 1)) = N := by
  obtain ⟨hi, he⟩ := List.getElem?_eq_some_iff.1 h
  have e : q.drop i = .mk l b ks :: q.drop (i + 1) := by rw [List.drop_eq_getElem_cons hi, he]
  have e2 : (q ++ ks).drop (i + 1) = q.drop (i + 1) ++ ks := List.drop_append_of_le_length (by omega)
  rw [e, sizes, It.size] at hs
  rw [e2, sizes_append]
  omega

theorem queue_step {q : List It} {i : Nat} {l : Bool} {b : List UInt8} {ks : List It} (h : q[i]? = some (.mk l b ks)) {N : Nat} {p : Bool} (hs : i + sizes (q.drop i) = N) (hp : puresB (q.drop i) = p)
    (hl : (if l = true then b.isEmpty else ks.isEmpty) = true) : i + 1 + sizes ((q ++ ks).drop (i + 1)) = N ∧ puresB ((q ++ ks).drop (i + 1)) = p := by
  obtain ⟨hi, he⟩ := List.getElem?_eq_some_iff.1 h
  have e : q.drop i = .mk l b ks :: q.drop (i + 1) := by rw [List.drop_eq_getElem_cons hi, he]
  have e2 : (q ++ ks).drop (i + 1) = q.drop (i + 1) ++ ks := List.drop_append_of_le_length (by omega)
  rw [e, sizes, It.size] at hs
  rw [e, puresB, It.pureB, hl, Bool.true_and] at hp
  rw [e2, sizes_append, puresB_append, Bool.and_comm]
  exact ⟨by omega, hp⟩

theorem queue_stop {q : List It} {i : Nat} {k : It} (h : q[i]? = some k) {p : Bool} (hp : puresB (q.drop i) = p) (hk : k.pureB = false) : p = false := by
  obtain ⟨hi, he⟩ := List.getElem?_eq_some_iff.1 h
  rw [List.drop_eq_getElem_cons hi, he, puresB, hk, Bool.false_and] at hp
  exact hp.symm

theorem queue_long {q : List It} {i : Nat} {l : Bool} {b : List UInt8} {ks : List It} (h : q[i]? = some (.mk l b ks)) {N : Nat} (hs : i + sizes (q.drop i) = N) : q.length + ks.length ≤ N := by
  obtain ⟨hi, he⟩ := List.getElem?_eq_some_iff.1 h
  have e : q.drop i = .mk l b ks :: q.drop (i + 1) := by rw [List.drop_eq_getElem_cons hi, he]
  have h1 := sizes_length (q.drop (i + 1))
  have h2 := sizes_length ks
  rw [List.length_drop] at h1
  rw [e, sizes, It.size] at hs
  omega

abbrev ivO (x : IV) : Obj := .cells #[.bool x.1, .string x.2.1, .slice x.2.2.1 x.2.2.2.1 x.2.2.2.2] 24

/-- What the queue reads as. -/
theorem OwnQ.parts {w : World} {base : Nat} {v : Value} {l : List IV} (h : OwnQ w base v l) : ∃ (p : Option Addr) (c : Nat), v = .slice p l.length c ∧ l.length ≤ c ∧ c ≤ 9223372036854775807 ∧
    ∀ i y, l[i]? = some y → ∃ a : Addr, p = some a ∧ w.cell? (a.add (i * 3)) = some (.bool y.1) ∧ w.cell? ⟨(a.add (i * 3)).block, (a.add (i * 3)).off + 1, none⟩ = some (.string y.2.1) ∧ w.cell? ⟨(a.add (i * 3)).block, (a.add (i * 3)).off + 2, none⟩ = some y.kids := by
  rcases h.2 with ⟨hv, hn⟩ | ⟨g, cap, cur, hv, hg, hc, hn, hcap, hsz, hx⟩
  · obtain rfl : l = [] := List.eq_nil_of_length_eq_zero hn
    exact ⟨none, 0, hv, Nat.le_refl _, Nat.zero_le _, fun i y hy => by simp at hy⟩
  · refine ⟨some ⟨g, 0, none⟩, cap, hv, hn, hcap, fun i y hy => ?_⟩
    obtain ⟨h1, h2, h3⟩ := flat3_get l i y hy
    have e : ∀ j, (⟨((⟨g, 0, none⟩ : Addr).add (i * 3)).block, ((⟨g, 0, none⟩ : Addr).add (i * 3)).off + (j + 1), none⟩ : Addr) = (⟨g, 0, none⟩ : Addr).add (i * 3 + (j + 1)) := fun j => by rw [← Go.Deep.add_add]; rfl
    have hob : v.ownBlock = some g := by rw [hv]; rfl
    refine ⟨_, rfl, World.ownsRow.cells h hob _ _ h1, ?_, ?_⟩
    · rw [e 0]; exact World.ownsRow.cells h hob _ _ h2
    · rw [e 1]; exact World.ownsRow.cells h hob _ _ h3

set_option maxRecDepth 100000 in
set_option maxHeartbeats 2000000 in
theorem well_any (x : It) (v : Value) (w : World) (hx : ItemIs w x v) :
    Calls Try.prog 23 #[v] w fun e w' => e = .returned (.bool (x.pureB && decide (x.size ≤ 4000))) ∧ Below w.heap.size w w' := by
  obtain ⟨⟨l, b, p, n, c⟩, rfl⟩ := itemIs_val hx
  have H := Lib.hid hx
  have L : Hid (RowAt (w.alloc (ivO (l, b, p, n, c))) w.heap.size #[.bool l, .string b, .slice p n c] 24) := Lib.hid (RowAt.new _ _ _)
  have B : Hid (Below w.heap.size w (w.alloc (ivO (l, b, p, n, c)))) := Lib.hid ((Below.refl _ _).alloc (Nat.le_refl _) _)
  clear hx
  have hop : OwnQ ((w.alloc (ivO (l, b, p, n, c))).alloc (ivO (l, b, p, n, c))) (w.heap.size + 1) (.slice (some ⟨w.heap.size + 1, 0, none⟩) 1 1) [(l, b, p, n, c)] := by
    have := World.ownsRow_lit (base := w.heap.size + 1) (e := 24) (size := 3) (w.alloc (ivO (l, b, p, n, c))) #[.bool l, .string b, .slice p n c] 1 (by simp) (by decide) rfl
    simpa [OwnQ, flat3, cells3, IV.kids] using this
  have O := Lib.hid hop
  have B2 : Hid (Below w.heap.size w ((w.alloc (ivO (l, b, p, n, c))).alloc (ivO (l, b, p, n, c)))) := Lib.hid (B.out.alloc B.out.size _)
  clear hop
  show Calls Try.prog 23 #[.agg #[.bool l, .string b, .slice p n c]] w _
  obtain ⟨a0, a1, a2, af0, af1, af2⟩ := L.out.c3
  go_enter Try.func23, Try.ntmps23
  go_wp2
  have hsz := B2.out.size
  generalize hW : (w.alloc (ivO (l, b, p, n, c))).alloc (ivO (l, b, p, n, c)) = W at *
  have hb1 : w.heap.size + 1 ≤ W.heap.size := by rw [← hW]; simp
  have Q0 : Hid (QIs w [x] [(l, b, p, n, c)]) := Lib.hid ⟨H.out, trivial⟩
  have S0 : Hid (0 + sizes ([x].drop 0) = x.size ∧ puresB ([x].drop 0) = x.pureB) := Lib.hid (by simp [sizes, puresB])
  clear a0 a1 a2 af0 af1 af2 L B H hW
  go_loopw [3, 4] (fun s3 s4 wr => ∃ (q : List It) (lv : List IV) (i : Nat), s4 = .int .i64 i ∧ i ≤ q.length ∧ q.length ≤ 4000 ∧ OwnQ wr (w.heap.size + 1) s3 lv ∧ QIs w q lv ∧ (i + sizes (q.drop i) = x.size ∧ puresB (q.drop i) = x.pureB) ∧ Below w.heap.size w wr ∧ w.heap.size + 1 ≤ wr.heap.size)
    (fun _ s4 _ => x.size - (intOf s4).toNat)
  case atStart => exact ⟨[x], [(l, b, p, n, c)], 0, rfl, by simp, by simp, O.out, Q0.out, S0.out, B2.out, hb1⟩
  case round =>
    clear O Q0 S0 B2 hb1 hsz
    obtain ⟨q, lv, i, rfl, hi, hq, hown, hqs, hinv, hbl, hbs⟩ := hrel
    have hlen := hqs.length
    obtain ⟨p1, c1, ev, g1, g2, hg⟩ := hown.parts
    rw [← hlen] at g1 ev
    subst ev
    by_cases hlt : i < q.length
    · obtain ⟨⟨l', b', ks⟩, hk⟩ : ∃ k, q[i]? = some k := ⟨_, List.getElem?_eq_getElem hlt⟩
      obtain ⟨y, hy, hit⟩ := hqs.get hk
      obtain ⟨a, rfl, q0, q1, q2⟩ := hg i y hy
      obtain ⟨kv, ey, hbz, hks⟩ := itemIs_iff.1 hit
      obtain ⟨pk, ck, rfl, hk1, hk2, _⟩ := hks.parts
      obtain ⟨y1, y2, y3, y4, y5⟩ := y
      have ey' : y1 = l' ∧ y2 = mkS b' ∧ y3 = pk ∧ y4 = ks.length ∧ y5 = ck := by
        simp [IV.val, IV.kids, itemV] at ey
        exact ey
      obtain ⟨rfl, rfl, rfl, rfl, rfl⟩ := ey'
      clear ey hbz
      simp only [IV.kids] at q0 q1 q2
      have hlong := queue_long hk hinv.1
      have hcase : (y1 = false ∧ 0 < ks.length ∧ (It.mk y1 b' ks).pureB = false) ∨ (y1 = true ∧ b' ≠ [] ∧ (It.mk y1 b' ks).pureB = false) ∨ ((y1 = false ∧ ks.length = 0 ∨ y1 = true ∧ b' = []) ∧ (if y1 = true then b'.isEmpty else ks.isEmpty) = true) := by
        cases y1
        · cases ks
          · right; right; simp
          · left; simp [It.pureB]
        · cases b'
          · right; right; simp
          · right; left; simp [It.pureB]
      have HB := Lib.hid hbl
      have HO : Hid (OwnQ (wr.alloc (ivO (y1, mkS b', y3, ks.length, y5))) (w.heap.size + 1) (.slice (some a) q.length c1) lv) := Lib.hid (hown.below ((Below.refl wr.heap.size wr).alloc (Nat.le_refl _) _) (Nat.le_refl _))
      have HK : Hid (KidsIs w ks (.slice y3 ks.length y5)) := Lib.hid hks
      have HQ : Hid (QIs w q lv) := Lib.hid hqs
      have HB2 : Hid (Below w.heap.size w (wr.alloc (ivO (y1, mkS b', y3, ks.length, y5)))) := Lib.hid (hbl.alloc hbl.size _)
      have HI := Lib.hid hinv
      have HLen := Lib.hid hlen
      have KK := Lib.hid hk
      clear hbl hown hqs hks hit hinv hg hy hlen hk
      rcases hcase with ⟨rfl, hc, hr⟩ | ⟨rfl, hc, hr⟩ | ⟨hc, hr⟩
      · have HP := Lib.hid (queue_stop KK.out HI.out.2 hr)
        clear hr hlong
        go_wp2
        go_ret
        rw [HP.out]
        exact ⟨rfl, HB2.out⟩
      · have HP := Lib.hid (queue_stop KK.out HI.out.2 hr)
        have hs : ¬ (mkS b').toList = [] := by rw [toList_bl, bl_mk]; exact hc
        have hs2 : (mkS b').toList.isEmpty = false := by rw [toList_bl, bl_mk]; simpa using hc
        clear hr hlong hc
        go_wp2
        go_ret
        rw [HP.out]
        exact ⟨rfl, HB2.out⟩
      · by_cases hm : 4000 - q.length < ks.length
        · have HP : Hid (decide (x.size ≤ 4000) = false) := Lib.hid (by simp; omega)
          clear hlong
          rcases hc with ⟨rfl, hc⟩ | ⟨rfl, rfl⟩
          · omega
          · clear hr
            have hs : (mkS []).toList = [] := by rw [toList_bl, bl_mk]
            go_wp2
            go_ret
            rw [HP.out, Bool.and_false]
            exact ⟨rfl, HB2.out⟩
        · have HS := Lib.hid (queue_step KK.out HI.out.1 HI.out.2 hr)
          clear hlong
          have hks : (ks = [] ∨ y1 = true) := by
            rcases hc with ⟨_, hc⟩ | ⟨hc, _⟩
            · exact .inl (List.eq_nil_of_length_eq_zero hc)
            · exact .inr hc
          have hs : y1 = true → (mkS b').toList = [] := by
            rintro rfl
            rcases hc with ⟨h, _⟩ | ⟨_, rfl⟩
            · cases h
            · rw [toList_bl, bl_mk]
          clear hc hr
          have hx1 : i < x.size := by have := HS.out.1; omega
          cases y1 with
          | false =>
            obtain rfl : ks = [] := by simpa using hks
            clear hs hks
            simp only [List.length_nil] at hm hk1 HO HK HQ HB2 q2
            go_wp2_with (at_builtin; refine wpList_append_kids rfl _ _ rfl (w.heap.size + 1) _ lv rfl HO.out w [] _ rfl HK.out HB2.out (by have := HLen.out; (try simp only [List.length_nil]); omega) (by simp; omega) ?_; intro v' w' lk ho' hq' hb' hz')
            have hz2 : wr.heap.size + 1 ≤ w'.heap.size := by simpa using hz'
            refine ⟨⟨q ++ [], lv ++ lk, i + 1, by go_num, by rw [List.length_append]; omega, by rw [List.length_append]; (try simp only [List.length_nil]); omega, ho', hq'.append HQ.out, HS.out, HB2.out.trans ((hb' _ (Below.refl _ _)).mono (by omega)), by omega⟩, by simp [intOf]; omega⟩
          | true =>
            replace hs := hs rfl
            clear hks
            go_wp2_with (at_builtin; refine wpList_append_kids rfl _ _ rfl (w.heap.size + 1) _ lv rfl HO.out w ks _ rfl HK.out HB2.out (by have := HLen.out; (try simp only [List.length_nil]); omega) (by simp; omega) ?_; intro v' w' lk ho' hq' hb' hz')
            have hz2 : wr.heap.size + 1 ≤ w'.heap.size := by simpa using hz'
            refine ⟨⟨q ++ ks, lv ++ lk, i + 1, by go_num, by rw [List.length_append]; omega, by rw [List.length_append]; (try simp only [List.length_nil]); omega, ho', hq'.append HQ.out, HS.out, HB2.out.trans ((hb' _ (Below.refl _ _)).mono (by omega)), by omega⟩, by simp [intOf]; omega⟩
    · have e : q.drop i = [] := List.drop_of_length_le (by omega)
      rw [e] at hinv
      have HP : Hid (x.pureB = true ∧ x.size ≤ 4000) := Lib.hid ⟨by rw [← hinv.2]; rfl, by rw [← hinv.1]; simp [sizes]; omega⟩
      have HB := Lib.hid hbl
      clear hbl hinv hg hqs hown
      go_wp2
      go_ret
      rw [HP.out.1, decide_eq_true HP.out.2]
      exact ⟨rfl, HB.out⟩
end Go.Proofs.Ytdeboidelgnffaa
