/- Rlp: the contract of the reference's Many. -/
import Derived.Test.YtdeboidelgnffaaRlp9
namespace Go.Proofs.Ytdeboidelgnffaa
open Go.RowKit

theorem wpList_append_item {ops : Array Oper} {rest : List Oper} {o : Oper} {a : Act} {Q : Exit → Act → World → Prop} {w : World} (hgd : o.guard = Option.none) (s x : Operand)
    (ho : o.op = .call { callee := .builtin .append, args := #[s, x], argTypes := #[22, 22] }) (base : Nat) (v : Value) (l : List IV) (hs : a.eval s = v) (hown : OwnQ w base v l)
    (ad : Addr) (y : IV) (hx : a.eval x = .slice (some ad) 1 1) (hc : ∀ j u, (cells3 y)[j]? = some u → w.cell? (ad.add j) = some u)
    (hb : l.length + 1 ≤ 100000) (hbase : base ≤ w.heap.size)
    (h : ∀ v' w', OwnQ w' base v' (l ++ [y]) → (∀ w0, Below base w0 w → Below base w0 w') → w.heap.size ≤ w'.heap.size → wpList Try.prog ops Q rest (a.put o.dst v') w') : wpList Try.prog ops Q (o :: rest) a w := by
  obtain ⟨i0, hi, hz0, hz1, hz2⟩ := info_item
  have e1 : flat3 [y] = cells3 y := by simp [flat3]
  refine wpList_append_own w hgd s x 22 ho base 24 i0 _ 3 48 Try.underlying22 hi hz0 hz1 hz2 rfl (by decide) v l.length (flat3 l) hs hown ad 1 1 (cells3 y) hx rfl hc (by rw [← e1]; exact flat3_one [y]) (by unfold maxLen; omega) (by omega) hbase ?_
  intro v' w' hown' hg _
  refine h v' w' ?_ (fun w0 h0 => h0.grown hg hbase fun k hk => (World.ownsRow.lt hown k hk).1) hg.size
  unfold OwnQ
  rw [List.length_append, flat3_append, e1]
  exact hown'

theorem alloc_cells3 (w0 : World) (y : IV) (g : Nat) (hg : g = w0.heap.size) : ∀ j u, (cells3 y)[j]? = some u → (w0.alloc (ivO y)).cell? ((⟨g, 0, none⟩ : Addr).add j) = some u := by
  subst hg
  intro j u hj
  match j, hj with
  | 0, hj => simp [cells3] at hj; subst hj; simp [Addr.add]
  | 1, hj => simp [cells3] at hj; subst hj; simp [Addr.add]
  | 2, hj => simp [cells3] at hj; subst hj; simp [Addr.add, IV.kids]
  | j + 3, hj => simp [cells3] at hj

/-- The queue behind some kids, cut. -/
def qcut (lim : Nat) (q ks : List It) (j : Nat) : List It := (q ++ ks.take j).take (lim + 1)

theorem qcut_zero {lim : Nat} {q ks : List It} (h : q.length ≤ lim) : qcut lim q ks 0 = q := by
  unfold qcut
  rw [List.take_zero, List.append_nil, List.take_of_length_le (by omega)]
theorem qcut_length (lim : Nat) (q ks : List It) (j : Nat) (h : j ≤ ks.length) : (qcut lim q ks j).length = min (lim + 1) (q.length + j) := by
  simp [qcut]; omega
theorem qcut_more {lim : Nat} {q ks : List It} {j : Nat} {k : It} (hk : ks[j]? = some k) (h : q.length + j ≤ lim) : qcut lim q ks (j + 1) = qcut lim q ks j ++ [k] := by
  have hj : j < ks.length := (List.getElem?_eq_some_iff.1 hk).1
  have e1 : qcut lim q ks (j + 1) = q ++ ks.take (j + 1) := by unfold qcut; rw [List.take_of_length_le]; simp; omega
  have e2 : qcut lim q ks j = q ++ ks.take j := by unfold qcut; rw [List.take_of_length_le]; simp; omega
  rw [e1, e2, List.take_add_one, hk, List.append_assoc]
  rfl
theorem qcut_full {lim : Nat} {q ks : List It} {j : Nat} (hj : j < ks.length) (h : lim < q.length + j) : qcut lim q ks (j + 1) = qcut lim q ks j := by
  unfold qcut
  have e : ks.take (j + 1) = ks.take j ++ (ks[j]?).toList := List.take_add_one
  rw [e, ← List.append_assoc, List.take_append_of_le_length (by simp; omega)]
theorem qcut_all {lim : Nat} {q ks : List It} (h : (q ++ ks).length ≤ lim) : qcut lim q ks ks.length = q ++ ks := by
  unfold qcut
  rw [List.take_length, List.take_of_length_le (by omega)]

/-- What the queue says of the item. -/
def QInv (lim : Nat) (x : It) (q : List It) (i : Nat) : Prop := (q.length ≤ lim ∧ i + sizes (q.drop i) = x.size) ∨ (q.length = lim + 1 ∧ lim + 1 ≤ x.size)

theorem QInv.step {lim : Nat} {x : It} {q : List It} {i : Nat} {l : Bool} {b : List UInt8} {ks : List It} (hk : q[i]? = some (.mk l b ks)) (hq : q.length ≤ lim) (hs : i + sizes (q.drop i) = x.size) : QInv lim x (qcut lim q ks ks.length) (i + 1) := by
  by_cases h : (q ++ ks).length ≤ lim
  · rw [qcut_all h]
    exact .inl ⟨h, queue_size hk hs⟩
  · have := queue_long hk hs
    rw [List.length_append] at h
    exact .inr ⟨by rw [qcut_length _ _ _ _ (Nat.le_refl _)]; omega, by omega⟩

set_option maxRecDepth 100000 in
set_option maxHeartbeats 2000000 in
theorem many_any (x : It) (v : Value) (lim : Nat) (w : World) (hx : ItemIs w x v) (hl : lim ≤ 5000) :
    Calls Try.prog 10 #[v, .int .i64 lim] w fun e w' => e = .returned (.int .i64 (min x.size (lim + 1) : Nat)) ∧ Below w.heap.size w w' := by
  obtain ⟨⟨l, b, p, n, c⟩, rfl⟩ := itemIs_val hx
  have H := Lib.hid hx
  have L : Hid (RowAt (w.alloc (ivO (l, b, p, n, c))) w.heap.size #[.bool l, .string b, .slice p n c] 24) := Lib.hid (RowAt.new _ _ _)
  have B : Hid (Below w.heap.size w (w.alloc (ivO (l, b, p, n, c)))) := Lib.hid ((Below.refl _ _).alloc (Nat.le_refl _) _)
  clear hx
  have hop : OwnQ ((w.alloc (ivO (l, b, p, n, c))).alloc (ivO (l, b, p, n, c))) (w.heap.size + 1) (.slice (some ⟨w.heap.size + 1, 0, none⟩) 1 1) [(l, b, p, n, c)] := by
    have := World.ownsRow_lit (base := w.heap.size + 1) (e := 24) (size := 3) (w.alloc (ivO (l, b, p, n, c))) #[.bool l, .string b, .slice p n c] 1 (by simp) (by decide) rfl
    simpa [OwnQ, flat3, cells3, IV.kids] using this
  have O := Lib.hid hop
  have B2 : Hid (Below w.heap.size w ((w.alloc (ivO (l, b, p, n, c))).alloc (ivO (l, b, p, n, c)))) := Lib.hid (B.out.alloc B.out.size _)
  clear hop
  show Calls Try.prog 10 #[.agg #[.bool l, .string b, .slice p n c], .int .i64 lim] w _
  obtain ⟨a0, a1, a2, af0, af1, af2⟩ := L.out.c3
  go_enter Try.func10, Try.ntmps10
  go_wp2
  have hsz := B2.out.size
  generalize hW : (w.alloc (ivO (l, b, p, n, c))).alloc (ivO (l, b, p, n, c)) = W at *
  have hb1 : w.heap.size + 1 ≤ W.heap.size := by rw [← hW]; simp
  have Q0 : Hid (QIs w [x] [(l, b, p, n, c)]) := Lib.hid ⟨H.out, trivial⟩
  have S0 : Hid (QInv lim x [x] 0) := Lib.hid (by
    have := x.size_pos
    by_cases h : 1 ≤ lim
    · exact .inl ⟨by simpa using h, by simp [sizes]⟩
    · exact .inr ⟨by simp; omega, by omega⟩)
  clear a0 a1 a2 af0 af1 af2 L B H hW
  go_loopw [5, 6] (fun s5 s6 wr => ∃ (q : List It) (lv : List IV) (i : Nat), s6 = .int .i64 i ∧ i ≤ q.length ∧ q.length ≤ lim + 1 ∧ OwnQ wr (w.heap.size + 1) s5 lv ∧ QIs w q lv ∧ QInv lim x q i ∧ Below w.heap.size w wr ∧ w.heap.size + 1 ≤ wr.heap.size)
    (fun _ s6 _ => lim + 2 - (intOf s6).toNat)
  case atStart => exact ⟨[x], [(l, b, p, n, c)], 0, rfl, by simp, by simp, O.out, Q0.out, S0.out, B2.out, hb1⟩
  case round =>
    clear O Q0 S0 B2 hb1 hsz
    obtain ⟨q, lv, i, rfl, hi, hq, hown, hqs, hinv, hbl, hbs⟩ := hrel
    have hlen := hqs.length
    obtain ⟨p1, c1, ev, g1, g2, hg⟩ := hown.parts
    rw [← hlen] at g1 ev
    subst ev
    by_cases hlt : i < q.length
    · by_cases hfull : q.length ≤ lim
      · have hs : i + sizes (q.drop i) = x.size := by
          rcases hinv with h | h
          · exact h.2
          · omega
        obtain ⟨⟨l', b', ks⟩, hk⟩ : ∃ k, q[i]? = some k := ⟨_, List.getElem?_eq_getElem hlt⟩
        obtain ⟨y, hy, hit⟩ := hqs.get hk
        obtain ⟨a, rfl, q0, q1, q2⟩ := hg i y hy
        obtain ⟨kv, ey, hbz, hks⟩ := itemIs_iff.1 hit
        obtain ⟨pk, ck, rfl, hk1, hk2, hgk⟩ := hks.parts
        obtain ⟨y1, y2, y3, y4, y5⟩ := y
        have ey' : y1 = l' ∧ y2 = mkS b' ∧ y3 = pk ∧ y4 = ks.length ∧ y5 = ck := by
          simp [IV.val, IV.kids, itemV] at ey
          exact ey
        obtain ⟨rfl, rfl, rfl, rfl, rfl⟩ := ey'
        clear ey hbz q0 q1
        simp only [IV.kids] at q2
        have HG := Lib.hid hgk
        clear hgk
        have HV : Hid (QInv lim x (qcut lim q ks ks.length) (i + 1)) := Lib.hid (QInv.step hk hfull hs)
        have HO := Lib.hid hown
        have HQ := Lib.hid hqs
        have HB := Lib.hid hbl
        have HC0 : Hid (qcut lim q ks 0 = q) := Lib.hid (qcut_zero hfull)
        have HCL := Lib.hid (fun j h => qcut_length lim q ks j h)
        have HCM := Lib.hid (fun j k (h : ks[j]? = some k) h' => qcut_more (lim := lim) (q := q) h h')
        have HCF := Lib.hid (fun j (h : j < ks.length) h' => qcut_full (lim := lim) (q := q) h h')
        clear hown hqs hbl hinv hg hy hk hit hlen hs hks
        generalize hm : ks.length = m at *
        have HM := Lib.hid hm
        clear hm
        go_wp2
        go_loopw [5, 29] (fun s5 s29 wr => ∃ (j : Nat) (lq : List IV), s29 = .int .i64 j ∧ j ≤ m ∧ OwnQ wr (w.heap.size + 1) s5 lq ∧ QIs w (qcut lim q ks j) lq ∧ Below w.heap.size w wr ∧ w.heap.size + 1 ≤ wr.heap.size)
          (fun _ s29 _ => m - (intOf s29).toNat)
        case atStart => exact ⟨0, lv, rfl, Nat.zero_le _, HO.out, by rw [HC0.out]; exact HQ.out, HB.out, hbs⟩
        case round =>
          clear HO HQ HB hbs
          obtain ⟨j, lq, rfl, hj, hown, hqs, hbl, hbs⟩ := hrel
          have hlen := hqs.length
          obtain ⟨p1, c2, ev, g3, g4, -⟩ := hown.parts
          rw [← hlen, HCL.out j hj] at g3 ev
          clear q2
          have HO := Lib.hid hown
          have HQ := Lib.hid hqs
          have HB := Lib.hid hbl
          have HLen := Lib.hid hlen
          clear hown hqs hbl hlen
          by_cases hjm : j < m
          · obtain ⟨k, hk⟩ : ∃ k, ks[j]? = some k := ⟨_, List.getElem?_eq_getElem (by rw [HM.out]; exact hjm)⟩
            obtain ⟨a', l', b'', p', n', c', rfl, c0', c1', c2', hit⟩ := HG.out j k hk
            have q0 : wr.cell? (a'.add (j * 3)) = some (.bool l') := by rw [HB.out.cell (block_lt_of_cell c0')]; exact c0'
            have q1 : wr.cell? ⟨(a'.add (j * 3)).block, (a'.add (j * 3)).off + 1, none⟩ = some (.string b'') := by
              have e : (⟨(a'.add (j * 3)).block, (a'.add (j * 3)).off + 1, none⟩ : Addr) = a'.add (j * 3 + 1) := by rw [← Go.Deep.add_add]; rfl
              rw [e, HB.out.cell (block_lt_of_cell c1')]
              exact c1'
            have q2 : wr.cell? ⟨(a'.add (j * 3)).block, (a'.add (j * 3)).off + 2, none⟩ = some (.slice p' n' c') := by
              have e : (⟨(a'.add (j * 3)).block, (a'.add (j * 3)).off + 2, none⟩ : Addr) = a'.add (j * 3 + 2) := by rw [← Go.Deep.add_add]; rfl
              rw [e, HB.out.cell (block_lt_of_cell c2')]
              exact c2'
            have KI : Hid (QIs w [k] [(l', b'', p', n', c')]) := Lib.hid ⟨hit, trivial⟩
            have KK := Lib.hid hk
            clear c0' c1' c2' hit hk
            replace HB := Lib.hid (HB.out.alloc HB.out.size (ivO (l', b'', p', n', c')))
            replace HO := Lib.hid (HO.out.below ((Below.refl wr.heap.size wr).alloc (Nat.le_refl _) (ivO (l', b'', p', n', c'))) (Nat.le_refl _))
            by_cases hroom : q.length + j ≤ lim
            · rw [show min (lim + 1) (q.length + j) = q.length + j by omega] at g3 ev
              subst ev
              have hll : lq.length ≤ 5000 := by have := HLen.out; rw [HCL.out j hj] at this; omega
              replace HB := Lib.hid (HB.out.alloc HB.out.size (ivO (l', b'', p', n', c')))
              replace HO := Lib.hid (HO.out.below ((Below.refl (wr.alloc (ivO (l', b'', p', n', c'))).heap.size (wr.alloc (ivO (l', b'', p', n', c')))).alloc (Nat.le_refl _) (ivO (l', b'', p', n', c'))) (Nat.le_refl _))
              have HN := Lib.hid (HCM.out j k KK.out hroom)
              go_wp2_with (at_builtin; refine wpList_append_item rfl _ _ rfl (w.heap.size + 1) _ lq rfl HO.out ⟨wr.heap.size + 1, 0, none⟩ (l', b'', p', n', c') rfl ?_ (by omega) (by simp; omega) ?_)
              · exact alloc_cells3 (wr.alloc (ivO (l', b'', p', n', c'))) (l', b'', p', n', c') (wr.heap.size + 1) (by simp)
              · intro v' w' ho' hb' hz'
                have hz2 : wr.heap.size + 2 ≤ w'.heap.size := by simpa using hz'
                have HO2 := Lib.hid ho'
                have HB2 := Lib.hid (HB.out.trans ((hb' _ (Below.refl _ _)).mono (by omega)))
                have HQ2 := Lib.hid (KI.out.append HQ.out)
                clear ho' hb' hz' HO HB
                go_wp2_with fail
                go_roundw
                case rel => exact ⟨j + 1, lq ++ [(l', b'', p', n', c')], by go_num, by omega, HO2.out, by rw [HN.out]; exact HQ2.out, HB2.out, by omega⟩
                case measure => simp [intOf]; omega
            · rw [show min (lim + 1) (q.length + j) = lim + 1 by omega] at g3 ev
              subst ev
              have HN := Lib.hid (HCF.out j hjm (by omega))
              go_wp2
              go_roundw
              case rel => exact ⟨j + 1, lq, by go_num, by omega, HO.out, by rw [HN.out]; exact HQ.out, HB.out, by simp; omega⟩
              case measure => simp [intOf]; omega
          · obtain rfl : j = m := by omega
            subst ev
            clear g3 g4
            go_wp2
            refine ⟨⟨qcut lim q ks j, lq, i + 1, by go_num, ?_, ?_, HO.out, HQ.out, HV.out, HB.out, hbs⟩, by simp [intOf]; omega⟩
            · rw [HCL.out j hj]; omega
            · rw [HCL.out j hj]; omega
      · have HP : Hid (min x.size (lim + 1) = q.length) := Lib.hid (by rcases hinv with h | h <;> omega)
        have HB := Lib.hid hbl
        clear hbl hinv hg hqs hown hlen
        go_wp2
        go_ret
        rw [HP.out]
        exact ⟨rfl, HB.out⟩
    · have e : q.drop i = [] := List.drop_of_length_le (by omega)
      have HP : Hid (min x.size (lim + 1) = q.length) := Lib.hid (by
        rcases hinv with h | h
        · rw [e] at h; simp only [sizes] at h; omega
        · omega)
      have HB := Lib.hid hbl
      clear hbl hinv hg hqs hown hlen
      go_wp2
      go_ret
      rw [HP.out]
      exact ⟨rfl, HB.out⟩
end Go.Proofs.Ytdeboidelgnffaa
