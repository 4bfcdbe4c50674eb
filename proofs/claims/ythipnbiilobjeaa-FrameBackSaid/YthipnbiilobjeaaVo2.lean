/- Vote: slices.Clone. -/
import Derived.Test.YthipnbiilobjeaaVo1
namespace Go.Proofs.Ythipnbiilobjeaa
open Go.RowKit

theorem info_bal : (Try.prog.info? 92).map (fun i => (i.zero, i.size, i.bytes)) = some (some (.agg #[.string ⟨#[]⟩, .string ⟨#[]⟩, .bool false]), 3, 40) := by kernel_rfl

theorem below_grown {w w' : World} {base : Nat} {T : TypeId} {k n : Nat} {v : Value} {xs : List Value} (hown : w.ownsRow base T k v n xs) (hg : w.grownBy w' v.ownBlock) (hbase : base ≤ w.heap.size) : ∀ w0, Below base w0 w → Below base w0 w' :=
  fun _ h0 => h0.grown hg hbase fun k hk => (World.ownsRow.lt hown k hk).1

/-- Elements behind the call's own. -/
theorem wpList_append_rowS {ops : Array Oper} {rest : List Oper} {o : Oper} {a : Act} {Q : Exit → Act → World → Prop} {w : World} (hgd : o.guard = Option.none) (s x : Operand)
    (ho : o.op = .call { callee := .builtin .append, args := #[s, x], argTypes := #[33, 33] }) (base : Nat) (v : Value) (l : List _) (hs : a.eval s = v) (hown : OwnE encS 9 w base v l)
    (v2 : Value) (news : List _) (hx : a.eval x = v2) (hsrc : RowE encS w v2 news) (hb : l.length + news.length ≤ 1000000000) (hbase : base ≤ w.heap.size)
    (h : ∀ v' w', OwnE encS 9 w' base v' (l ++ news) → (∀ w0, Below base w0 w → Below base w0 w') → w.heap.size ≤ w'.heap.size → (v' = .slice none 0 0 ↔ v = .slice none 0 0 ∧ news.length = 0) → wpList Try.prog ops Q rest (a.put o.dst v') w') : wpList Try.prog ops Q (o :: rest) a w := by
  obtain ⟨i0, hi, hz0, hz1, hz2⟩ := info_parts info_str
  rcases hsrc with ⟨rfl, rfl⟩ | ⟨ad, cap, rfl, h1, h2, hc⟩
  · refine wpList_append_own_none hgd s x 33 ho base 9 i0 1 Try.underlying33 hi v l.length (flat encS l) hs hown hx ?_
    exact h v w (by rw [List.append_nil]; exact hown) (fun _ h => h) (Nat.le_refl _) (by simp)
  · refine wpList_append_own w hgd s x 33 ho base 9 i0 _ 1 16 Try.underlying33 hi hz0 hz1 hz2 rfl (by decide) v l.length (flat encS l) hs hown ad news.length cap (flat encS news) hx (flat_length encS news) hc (flat_one encS news) (by unfold maxLen; omega) (by omega) hbase ?_
    intro v' w' hown' hg hn
    refine h v' w' ?_ (below_grown hown hg hbase) hg.size hn
    unfold OwnE
    rw [List.length_append, flat_append]
    exact hown'

set_option maxHeartbeats 1000000 in
theorem cloneS_any (v : Value) (l : List _) (w : World) (hr : RowE encS w v l) (hl : l.length ≤ 1000000) :
    Calls Try.prog 107 #[v] w fun e w' => ∃ v', e = .returned v' ∧ OwnE encS 9 w' w.heap.size v' l ∧ Below w.heap.size w w' := by
  obtain ⟨p, cap, rfl, h1, h2⟩ := hr.shape
  have HR := Lib.hid hr
  cases p with
  | none =>
    rcases hr with ⟨e, rfl⟩ | ⟨a, cap', e, _⟩
    · simp at e
      subst e
      clear HR
      simp only [List.length_nil]
      have hq := Lib.run_eql_slice_nil (P := Try.prog) w 33 9 none 0 0 0 0 Try.underlying33
      go_enter Try.func107, Try.ntmps107
      go_wp2
      go_ret
      exact ⟨_, rfl, OwnE.nil _ _ _ _, Below.refl _ _⟩
    · cases e
  | some a =>
    have hq := Lib.run_eql_slice_nil (P := Try.prog) w 33 9 (some a) l.length cap 0 0 Try.underlying33
    have O := Lib.hid (OwnE.start encS (T := 9) (w := w) (Nat.le_refl w.heap.size))
    have R := Lib.hid (RowE.below encS HR.out ((Below.refl w.heap.size w).alloc (Nat.le_refl _) (.cells #[] 9)) (Nat.le_refl _))
    clear hr HR
    go_enter Try.func107, Try.ntmps107
    go_wp2_with (at_builtin; refine wpList_append_rowS rfl _ _ rfl w.heap.size _ [] rfl O.out _ l rfl R.out (by simp; omega) (by simp) ?_)
    intro v' w' ho hb hz hn
    have HO := Lib.hid ho
    have HB := Lib.hid (hb _ ((Below.refl w.heap.size w).alloc (Nat.le_refl _) _))
    clear ho hb hn
    go_wp2_with fail
    go_ret
    exact ⟨_, rfl, HO.out, HB.out⟩

/-- Elements behind the call's own. -/
theorem wpList_append_rowB {ops : Array Oper} {rest : List Oper} {o : Oper} {a : Act} {Q : Exit → Act → World → Prop} {w : World} (hgd : o.guard = Option.none) (s x : Operand)
    (ho : o.op = .call { callee := .builtin .append, args := #[s, x], argTypes := #[43, 43] }) (base : Nat) (v : Value) (l : List _) (hs : a.eval s = v) (hown : OwnE encB 92 w base v l)
    (v2 : Value) (news : List _) (hx : a.eval x = v2) (hsrc : RowE encB w v2 news) (hb : l.length + news.length ≤ 1000000000) (hbase : base ≤ w.heap.size)
    (h : ∀ v' w', OwnE encB 92 w' base v' (l ++ news) → (∀ w0, Below base w0 w → Below base w0 w') → w.heap.size ≤ w'.heap.size → (v' = .slice none 0 0 ↔ v = .slice none 0 0 ∧ news.length = 0) → wpList Try.prog ops Q rest (a.put o.dst v') w') : wpList Try.prog ops Q (o :: rest) a w := by
  obtain ⟨i0, hi, hz0, hz1, hz2⟩ := info_parts info_bal
  rcases hsrc with ⟨rfl, rfl⟩ | ⟨ad, cap, rfl, h1, h2, hc⟩
  · refine wpList_append_own_none hgd s x 43 ho base 92 i0 3 Try.underlying43 hi v l.length (flat encB l) hs hown hx ?_
    exact h v w (by rw [List.append_nil]; exact hown) (fun _ h => h) (Nat.le_refl _) (by simp)
  · refine wpList_append_own w hgd s x 43 ho base 92 i0 _ 3 40 Try.underlying43 hi hz0 hz1 hz2 rfl (by decide) v l.length (flat encB l) hs hown ad news.length cap (flat encB news) hx (flat_length encB news) hc (flat_one encB news) (by unfold maxLen; omega) (by omega) hbase ?_
    intro v' w' hown' hg hn
    refine h v' w' ?_ (below_grown hown hg hbase) hg.size hn
    unfold OwnE
    rw [List.length_append, flat_append]
    exact hown'

set_option maxHeartbeats 1000000 in
theorem cloneB_any (v : Value) (l : List _) (w : World) (hr : RowE encB w v l) (hl : l.length ≤ 1000000) :
    Calls Try.prog 102 #[v] w fun e w' => ∃ v', e = .returned v' ∧ OwnE encB 92 w' w.heap.size v' l ∧ Below w.heap.size w w' := by
  obtain ⟨p, cap, rfl, h1, h2⟩ := hr.shape
  have HR := Lib.hid hr
  cases p with
  | none =>
    rcases hr with ⟨e, rfl⟩ | ⟨a, cap', e, _⟩
    · simp at e
      subst e
      clear HR
      simp only [List.length_nil]
      have hq := Lib.run_eql_slice_nil (P := Try.prog) w 43 92 none 0 0 0 0 Try.underlying43
      go_enter Try.func102, Try.ntmps102
      go_wp2
      go_ret
      exact ⟨_, rfl, OwnE.nil _ _ _ _, Below.refl _ _⟩
    · cases e
  | some a =>
    have hq := Lib.run_eql_slice_nil (P := Try.prog) w 43 92 (some a) l.length cap 0 0 Try.underlying43
    have O := Lib.hid (OwnE.start encB (T := 92) (w := w) (Nat.le_refl w.heap.size))
    have R := Lib.hid (RowE.below encB HR.out ((Below.refl w.heap.size w).alloc (Nat.le_refl _) (.cells #[] 92)) (Nat.le_refl _))
    clear hr HR
    go_enter Try.func102, Try.ntmps102
    go_wp2_with (at_builtin; refine wpList_append_rowB rfl _ _ rfl w.heap.size _ [] rfl O.out _ l rfl R.out (by simp; omega) (by simp) ?_)
    intro v' w' ho hb hz hn
    have HO := Lib.hid ho
    have HB := Lib.hid (hb _ ((Below.refl w.heap.size w).alloc (Nat.le_refl _) _))
    clear ho hb hn
    go_wp2_with fail
    go_ret
    exact ⟨_, rfl, HO.out, HB.out⟩
end Go.Proofs.Ythipnbiilobjeaa
