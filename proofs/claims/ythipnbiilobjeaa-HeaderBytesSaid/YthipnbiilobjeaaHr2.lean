/- Header: what the writer's methods make of its row of fields. Header: the writer's method for a list. -/
import Derived.Test.YthipnbiilobjeaaFr10
import Derived.Deep.RegionLaw
namespace Go.Proofs.Ythipnbiilobjeaa
open Go.RowKit
set_option maxRecDepth 100000

section
variable {α : Type} {E : TE α} {A : Nat → Prop}
/-- One more tree behind the call's own row, as one step of a region that draws. -/
theorem step_append_tree {ts te : TypeId} {z : Value} {bytes : Nat} (ht : Try.prog.underlying ts = some (.slice te)) (hinf : (Try.prog.info? te).map (fun i => (i.zero, i.size, i.bytes)) = some (some z, E.n + 1, bytes)) (hzs : z.cells.size = E.n + 1) (hbb : bytes ≤ 1000)
    {ops : Array Oper} {o : Oper} {a : Act} {K : Act → World → Prop} {Q : Exit → Act → World → Prop} {F : Prop} {w : World} (hgd : o.guard = Option.none) (s x : Operand)
    (ho : o.op = .call { callee := .builtin .append, args := #[s, x], argTypes := #[ts, ts] }) (base : Nat) (v : Value) (l : List (Tr α)) (hs : a.eval s = v) (hown : OwnT E te A w base v l)
    (ad : Addr) (t : Tr α) (y : EV α) (hx : a.eval x = .slice (some ad) 1 1) (hc : ∀ j u, (E.enc.cells y)[j]? = some u → w.cell? (ad.add j) = some u) (hy : TreeP E (fun b => A b ∧ v.ownBlock ≠ some b) w t y)
    (hb : l.length + 1 ≤ 1000000) (hbase : base ≤ w.heap.size)
    (h : ∀ v' w', OwnT E te A w' base v' (l ++ [t]) → w.grownBy w' v.ownBlock → (∀ w0, Below base w0 w → Below base w0 w') → w.heap.size ≤ w'.heap.size → (∀ t x, TreeP E (fun b => A b ∧ v.ownBlock ≠ some b) w t x → TreeP E (fun b => A b ∧ v'.ownBlock ≠ some b) w' t x) → K (a.put o.dst v') w') :
    if Region.wanted o (yielded ops a.tmps) = true then Oper.wp Try.prog o a w K Q else F := by
  rw [if_pos (by simp [Region.wanted, hgd])]
  obtain ⟨xs, hl, hoe, htr⟩ := hown
  obtain ⟨v', w', hr, h1, h2, h3⟩ := run_append_one E.enc ht hinf hzs hbb w o.type base v xs hoe ad y hc (by omega) hbase
  unfold Oper.wp execOp
  simp only [ho, resolve, invoke, builtin, Sem.run_bind, Sem.run_pure, Result.andThen_ok, List.map_toArray, List.map_cons, List.map_nil, hs, hx, hr, Oper.upon]
  have hkeep : ∀ {t x}, TreeP E (fun b => A b ∧ v.ownBlock ≠ some b) w t x → TreeP E (fun b => (A b ∧ v.ownBlock ≠ some b) ∧ (b < w.heap.size)) w t x → TreeP E (fun b => A b ∧ v'.ownBlock ≠ some b) w' t x := fun _ hp => by
    refine hp.keep (fun a u ha hc => ?_) (fun a u ha hc => ?_) (fun b hb => ?_)
    · rw [World.cell?_of_block (h2.block _ ha.2 (Ne.symm ha.1.2))]
      exact hc
    · exact ⟨ha.1.1, fun e => (h3 _ e).elim ha.1.2 (fun h => absurd ha.2 (by omega))⟩
    · exact ⟨hb.1.1, fun e => (h3 _ e).elim hb.1.2 (fun h => absurd hb.2 (by omega))⟩
  have hlt : ∀ {t x}, TreeP E (fun b => A b ∧ v.ownBlock ≠ some b) w t x → TreeP E (fun b => (A b ∧ v.ownBlock ≠ some b) ∧ (b < w.heap.size)) w t x := fun {t x} hp => by
    induction hp with
    | leaf a p c hc hp => exact .leaf a p c hc hp
    | node a ks xs ad cap hn hl hAd hr hh ih => exact .node a ks xs ad cap hn hl ⟨hAd, RowE.lt hr (fun e => hn (List.eq_nil_of_length_eq_zero (by rw [← hl, e]; rfl)))⟩ hr ih
  refine h v' w' ⟨xs ++ [y], by simp [hl], h1, fun i t' x' e1 e2 => ?_⟩ h2 (below_grown hoe h2 hbase) h2.size (fun t x hp => hkeep hp (hlt hp))
  by_cases hi : i < l.length
  · rw [List.getElem?_append_left hi] at e1
    rw [List.getElem?_append_left (by omega)] at e2
    have := htr i t' x' e1 e2
    exact hkeep this (hlt this)
  · obtain rfl : i = l.length := by
      have := (List.getElem?_eq_some_iff.1 e1).1
      simp at this
      omega
    rw [List.getElem?_append_right (Nat.le_refl _), Nat.sub_self] at e1
    rw [List.getElem?_append_right (by omega), hl, Nat.sub_self] at e2
    simp at e1 e2
    subst e1 e2
    exact hkeep hy (hlt hy)

theorem layW_cell {g : Nat} {a : Addr} (h : a.block ≠ g) : ∀ (l : List Value) (w : World) (o : Nat), (layW w g o l).cell? a = w.cell? a
  | [], _, _ => rfl
  | v :: l, w, o => by rw [layW, layW_cell h l]; exact World.cell?_setCell_other _ _ _ _ (fun e => h (by rw [← e]))

/-- The last element of the call's own row, laid anew. -/
theorem OwnT.last {T : TypeId} {w : World} {base : Nat} {v : Value} {l : List (Tr α)} {t0 : Tr α} (h : OwnT E T A w base v (l ++ [t0])) : ∃ g c, v = .slice (some ⟨g, 0, none⟩) (l.length + 1) c ∧ l.length + 1 ≤ c ∧ c ≤ maxLen ∧ base ≤ g ∧ g < w.heap.size ∧ (∀ r, r < E.n + 1 → ∃ u, w.cell? ⟨g, l.length * (E.n + 1) + r, none⟩ = some u) ∧ (∀ r, w.frozen? ⟨g, r, none⟩ = false) ∧
    ∀ (t : Tr α) (y : EV α), TreeP E (fun b => A b ∧ b ≠ g) w t y → OwnT E T A (layW w g (l.length * (E.n + 1)) (E.enc.cells y)) base v (l ++ [t]) := by
  obtain ⟨p, c, rfl, s1, s2⟩ := h.shape
  obtain ⟨xs, hl, ho, ht⟩ := h
  rw [List.length_append, List.length_singleton] at hl s1 ho ⊢
  obtain ⟨x0, hx⟩ : ∃ x, xs[l.length]? = some x := ⟨_, List.getElem?_eq_getElem (by omega)⟩
  obtain ⟨g, rfl, g1, g2, g3, g4, g5⟩ := OwnE.at ho hx
  refine ⟨g, c, rfl, s1, s2, g1, g2, fun r hr => ⟨_, g3 r _ (List.getElem?_eq_getElem (by rw [E.enc.len]; exact hr))⟩, g4, fun t y hy => ?_⟩
  refine ⟨xs.set l.length y, by simp; omega, g5 y w (fun _ h => h), fun i t' x' e1 e2 => ?_⟩
  have hk : ∀ {t x}, TreeP E (fun b => A b ∧ b ≠ g) w t x → TreeP E (fun b => A b ∧ (Value.slice (some ⟨g, 0, none⟩) (l.length + 1) c).ownBlock ≠ some b) (layW w g (l.length * (E.n + 1)) (E.enc.cells y)) t x := fun hp =>
    hp.keep (fun a u ha hc => by rw [layW_cell ha.2]; exact hc) (fun a u ha _ => ⟨ha.1, by simpa [Value.ownBlock] using fun e => ha.2 e.symm⟩) (fun b hb => ⟨hb.1, by simpa [Value.ownBlock] using fun e => hb.2 e.symm⟩)
  by_cases hi : i < l.length
  · rw [List.getElem?_append_left hi] at e1
    rw [List.getElem?_set_ne (by omega)] at e2
    exact hk ((ht i t' x' (by rw [List.getElem?_append_left hi]; exact e1) e2).weaken fun b hb => ⟨hb.1, fun e => hb.2 (by rw [e]; rfl)⟩)
  · obtain rfl : i = l.length := by
      have := (List.getElem?_eq_some_iff.1 e1).1
      simp at this
      omega
    rw [List.getElem?_append_right (Nat.le_refl _), Nat.sub_self] at e1
    rw [List.getElem?_set_self (by omega)] at e2
    simp at e1 e2
    subst e1 e2
    exact hk hy
end

/-- The writer behind the pointer to block 'k' of 'W' holds 'v', the call's own row of the fields 'ts'; all else of 'W' is as it was. -/
def WrAt (W : World) (k : Nat) (w : World) (v : Value) (ts : List Fd) : Prop :=
  Below W.heap.size (W.setCell ⟨k, 0, none⟩ v) w ∧ OwnT encFd 58 (fun b => W.heap.size ≤ b) w W.heap.size v ts ∧ ∃ u T, RowAt W k #[u] T
def WrPost (W : World) (k : Nat) (ts : List Fd) (e : Ending) (w : World) : Prop := e = .returned (.tuple #[]) ∧ ∃ v, WrAt W k w v ts

theorem WrAt.row {W w : World} {k : Nat} {v : Value} {ts : List Fd} (h : WrAt W k w v ts) : ∃ T, RowAt w k #[v] T := by
  obtain ⟨hb, _, u, T, hr⟩ := h
  refine ⟨T, (hr.set 0 v (cs' := #[v]) rfl).below hb hr.lt⟩
theorem WrAt.lt {W w : World} {k : Nat} {v : Value} {ts : List Fd} (h : WrAt W k w v ts) : k < W.heap.size ∧ W.heap.size ≤ w.heap.size := by
  obtain ⟨hb, _, u, T, hr⟩ := h
  exact ⟨hr.lt, by have := hb.size; simpa using this⟩
theorem WrAt.below {W w w' : World} {k : Nat} {v : Value} {ts : List Fd} (h : WrAt W k w v ts) (hb : Below w.heap.size w w') : WrAt W k w' v ts :=
  ⟨h.1.trans (hb.mono h.lt.2), h.2.1.below hb (Nat.le_refl _), h.2.2⟩
theorem setCell_twice (W : World) (a : Addr) (v v' : Value) : (W.setCell a v).setCell a v' = W.setCell a v' := by
  unfold World.setCell
  congr 1
  apply Array.ext
  · simp
  · intro i h1 h2
    simp only [Array.getElem_modify]
    split
    · cases hW : W.heap[i]'(by simpa using h2) with
      | cells c T fz => simp; split <;> simp
      | _ => simp
    · rfl
theorem WrAt.put {W w w1 : World} {k : Nat} {v v' : Value} {ts ts' : List Fd} (h : WrAt W k w v ts) (hb : ∀ w0, Below W.heap.size w0 w → Below W.heap.size w0 w1) (ho : OwnT encFd 58 (fun b => W.heap.size ≤ b) (w1.setCell ⟨k, 0, none⟩ v') W.heap.size v' ts') : WrAt W k (w1.setCell ⟨k, 0, none⟩ v') v' ts' := by
  obtain ⟨hb0, _, hr⟩ := h
  refine ⟨?_, ho, hr⟩
  have := below_set (hb _ hb0) ⟨k, 0, none⟩ v' (by obtain ⟨u, T, hr⟩ := hr; exact hr.lt)
  rwa [setCell_twice] at this

theorem WrAt.leafA {W w w1 : World} {k g c : Nat} {v0 v : Value} {ts : List Fd} {t0 : Fd} (h : WrAt W k w v0 ts) (hb : ∀ w0, Below W.heap.size w0 w → Below W.heap.size w0 w1) (ho : OwnT encFd 58 (fun b => W.heap.size ≤ b) w1 W.heap.size (.slice (some ⟨g, 0, none⟩) (ts.length + 1) c) (ts ++ [t0]))
    (t : Fd) (y : EV (Nat × List UInt8)) (hy : TreeP encFd (fun b => W.heap.size ≤ b ∧ b ≠ g) w1 t y) (hv : v = .slice (some ⟨g, 0, none⟩) (ts.length + 1) c) : WrAt W k ((layW w1 g (ts.length * 3) (encFd.enc.cells y)).setCell ⟨k, 0, none⟩ v) v (ts ++ [t]) := by
  subst hv
  have hk := h.lt.1
  obtain ⟨g', c', e, _, _, t3, _, _, _, t7⟩ := ho.last
  injection e with e _ _
  injection e with e
  injection e with e _ _
  subst e
  refine h.put (fun w0 h0 => layW_below _ _ _ _ _ _ (hb w0 h0) t3) ?_
  exact (t7 t y hy).setLow ⟨k, 0, none⟩ _ hk (fun b hb e => by simp only at e; omega)
theorem WrAt.leafB {W w w1 : World} {k g c : Nat} {v0 v : Value} {ts : List Fd} {t0 : Fd} (h : WrAt W k w v0 ts) (hb : ∀ w0, Below W.heap.size w0 w → Below W.heap.size w0 w1) (ho : OwnT encFd 58 (fun b => W.heap.size ≤ b) w1 W.heap.size (.slice (some ⟨g, 0, none⟩) (ts.length + 1) c) (ts ++ [t0]))
    (t : Fd) (y : EV (Nat × List UInt8)) (hy : TreeP encFd (fun b => W.heap.size ≤ b ∧ b ≠ g) w1 t y) (hv : v = .slice (some ⟨g, 0, none⟩) (ts.length + 1) c) : WrAt W k (layW (w1.setCell ⟨k, 0, none⟩ v) g (ts.length * 3) (encFd.enc.cells y)) v (ts ++ [t]) := by
  subst hv
  have hk := h.lt.1
  have ho2 := ho.setLow ⟨k, 0, none⟩ (.slice (some ⟨g, 0, none⟩) (ts.length + 1) c) hk (fun b hb e => by simp only at e; omega)
  obtain ⟨g', c', e, _, _, t3, _, _, _, t7⟩ := ho2.last
  injection e with e _ _
  injection e with e
  injection e with e _ _
  subst e
  have hp := h.put hb ho2
  refine ⟨layW_below _ _ _ _ _ _ hp.1 t3, t7 t y (hy.keep (fun a u ha hc => ?_) (fun _ _ h _ => h) (fun _ h => h)), hp.2.2⟩
  rw [World.cell?_setCell_other]
  · exact hc
  · intro e; subst e; have := ha.1; simp only at this; omega

set_option maxHeartbeats 4000000 in
theorem text_any (W w : World) (k : Nat) (v : Value) (ts : List Fd) (s : ByteArray) (h : WrAt W k w v ts) (hl : ts.length ≤ 1000) : Calls Try.prog 80 #[.pointer (some ⟨k, 0, none⟩), .string s] w (WrPost W k (ts ++ [.mk (0, bl s) []])) := by
  obtain ⟨T, hrow⟩ := h.row
  have hlt := h.lt
  obtain ⟨p, c, rfl, s1, s2⟩ := h.2.1.shape
  have HW := Lib.hid h
  have R := Lib.hid hrow
  obtain ⟨a0, af0⟩ := hrow.c1
  have HLT := Lib.hid hlt
  have Z1 := Lib.hid (RowAt.new w.drew #[.int .u64 0, .string ⟨#[]⟩, .slice none 0 0] 58)
  have O1 := Lib.hid (OwnT.below h.2.1 (((Below.refl w.heap.size w).drew).alloc (Nat.le_refl _) (.cells #[.int .u64 0, .string ⟨#[]⟩, .slice none 0 0] 58)) (Nat.le_refl _))
  have HA : Hid (∀ w0, Below W.heap.size w0 w → Below W.heap.size w0 (w.drew.alloc (.cells #[.int .u64 0, .string ⟨#[]⟩, .slice none 0 0] 58))) := Lib.hid (fun w0 hb => hb.drew.alloc (by have := hlt.2; exact this) _)
  have hk : k < w.heap.size := by omega
  have q9 : (ts.length : Int) < (ts.length : Int) + 1 := by omega
  unfold maxLen at s2
  clear h hrow hlt
  go_enter Try.func80, Try.ntmps80
  go_region_law (refine step_append_tree (E := encFd) (A := fun b => W.heap.size ≤ b) Try.underlying22 info_field rfl (by omega) rfl _ _ rfl W.heap.size _ ts rfl O1.out ⟨w.heap.size, 0, none⟩ (.mk (0, []) []) ((0, []), none, 0, 0) rfl (lit_cells (E := encFd) Z1.out rfl) (.leaf _ _ _ (by unfold maxLen; omega) (fun _ => rfl)) (by omega) (by have := HLT.out.2; simp; omega) ?_; intro v' w1 ho hg hbb hz _; obtain ⟨g, c', rfl, t1, t2, t3, t4, t5, t6, t7⟩ := ho.last; have hkg : ¬ k = g := (by have := HLT.out.1; omega); obtain ⟨u0, d0⟩ := t5 0 (by decide); obtain ⟨u1, d1⟩ := t5 1 (by decide); obtain ⟨u2, d2⟩ := t5 2 (by decide); replace d0 : w1.cell? ⟨g, ts.length * 3, none⟩ = some u0 := d0; replace d1 : w1.cell? ⟨g, ts.length * 3 + 1, none⟩ = some u1 := d1; replace d2 : w1.cell? ⟨g, ts.length * 3 + 2, none⟩ = some u2 := d2; have e0 : w1.cell? ⟨k, 0, none⟩ = some (.slice p ts.length c) := (by rw [(hbb _ (Below.refl _ _)).cell HLT.out.1]; exact (R.out.drew.alloc _).cell 0); have ef0 : w1.frozen? ⟨k, 0, none⟩ = false := (by rw [(hbb _ (Below.refl _ _)).frozen HLT.out.1]; exact (R.out.drew.alloc _).frozen 0); have HO := Lib.hid ho; have HBB := Lib.hid hbb; clear ho hbb hg t5 t7 a0 af0)
  all_goals
    go_end0
    have hB2 : ∀ w0, Below W.heap.size w0 w → Below W.heap.size w0 w1 := fun w0 h0 => HBB.out _ (HA.out w0 h0)
    refine ⟨rfl, .slice (some ⟨g, 0, none⟩) (ts.length + 1) c', ?_⟩
    first
    | exact HW.out.leafA hB2 HO.out (.mk (0, bl s) []) ((0, bl s), none, 0, 0) (.leaf _ _ _ (by unfold maxLen; omega) (fun _ => rfl)) rfl
    | exact HW.out.leafB hB2 HO.out (.mk (0, bl s) []) ((0, bl s), none, 0, 0) (.leaf _ _ _ (by unfold maxLen; omega) (fun _ => rfl)) rfl

set_option maxHeartbeats 4000000 in
theorem number_anyW (W w : World) (k : Nat) (v : Value) (ts : List Fd) (n : Nat) (h : WrAt W k w v ts) (hl : ts.length ≤ 1000) : Calls Try.prog 81 #[.pointer (some ⟨k, 0, none⟩), .int .u64 (n : Int)] w (WrPost W k (ts ++ [.mk (n, []) []])) := by
  obtain ⟨T, hrow⟩ := h.row
  have hlt := h.lt
  obtain ⟨p, c, rfl, s1, s2⟩ := h.2.1.shape
  have HW := Lib.hid h
  have R := Lib.hid hrow
  obtain ⟨a0, af0⟩ := hrow.c1
  have HLT := Lib.hid hlt
  have Z1 := Lib.hid (RowAt.new w.drew #[.int .u64 0, .string ⟨#[]⟩, .slice none 0 0] 58)
  have O1 := Lib.hid (OwnT.below h.2.1 (((Below.refl w.heap.size w).drew).alloc (Nat.le_refl _) (.cells #[.int .u64 0, .string ⟨#[]⟩, .slice none 0 0] 58)) (Nat.le_refl _))
  have HA : Hid (∀ w0, Below W.heap.size w0 w → Below W.heap.size w0 (w.drew.alloc (.cells #[.int .u64 0, .string ⟨#[]⟩, .slice none 0 0] 58))) := Lib.hid (fun w0 hb => hb.drew.alloc (by have := hlt.2; exact this) _)
  have hk : k < w.heap.size := by omega
  have q9 : (ts.length : Int) < (ts.length : Int) + 1 := by omega
  unfold maxLen at s2
  clear h hrow hlt
  go_enter Try.func81, Try.ntmps81
  go_region_law (refine step_append_tree (E := encFd) (A := fun b => W.heap.size ≤ b) Try.underlying22 info_field rfl (by omega) rfl _ _ rfl W.heap.size _ ts rfl O1.out ⟨w.heap.size, 0, none⟩ (.mk (0, []) []) ((0, []), none, 0, 0) rfl (lit_cells (E := encFd) Z1.out rfl) (.leaf _ _ _ (by unfold maxLen; omega) (fun _ => rfl)) (by omega) (by have := HLT.out.2; simp; omega) ?_; intro v' w1 ho hg hbb hz _; obtain ⟨g, c', rfl, t1, t2, t3, t4, t5, t6, t7⟩ := ho.last; have hkg : ¬ k = g := (by have := HLT.out.1; omega); obtain ⟨u0, d0⟩ := t5 0 (by decide); obtain ⟨u1, d1⟩ := t5 1 (by decide); obtain ⟨u2, d2⟩ := t5 2 (by decide); replace d0 : w1.cell? ⟨g, ts.length * 3, none⟩ = some u0 := d0; replace d1 : w1.cell? ⟨g, ts.length * 3 + 1, none⟩ = some u1 := d1; replace d2 : w1.cell? ⟨g, ts.length * 3 + 2, none⟩ = some u2 := d2; have e0 : w1.cell? ⟨k, 0, none⟩ = some (.slice p ts.length c) := (by rw [(hbb _ (Below.refl _ _)).cell HLT.out.1]; exact (R.out.drew.alloc _).cell 0); have ef0 : w1.frozen? ⟨k, 0, none⟩ = false := (by rw [(hbb _ (Below.refl _ _)).frozen HLT.out.1]; exact (R.out.drew.alloc _).frozen 0); have HO := Lib.hid ho; have HBB := Lib.hid hbb; clear ho hbb hg t5 t7 a0 af0)
  all_goals
    go_end0
    have hB2 : ∀ w0, Below W.heap.size w0 w → Below W.heap.size w0 w1 := fun w0 h0 => HBB.out _ (HA.out w0 h0)
    refine ⟨rfl, .slice (some ⟨g, 0, none⟩) (ts.length + 1) c', ?_⟩
    first
    | exact HW.out.leafA hB2 HO.out (.mk (n, []) []) ((n, []), none, 0, 0) (.leaf _ _ _ (by unfold maxLen; omega) (fun _ => rfl)) rfl
    | exact HW.out.leafB hB2 HO.out (.mk (n, []) []) ((n, []), none, 0, 0) (.leaf _ _ _ (by unfold maxLen; omega) (fun _ => rfl)) rfl
end Go.Proofs.Ythipnbiilobjeaa

namespace Go.Proofs.Ythipnbiilobjeaa
open Go.RowKit
set_option maxRecDepth 100000

/-- Texts as fields. -/
abbrev bF (s : ByteArray) : Fd := .mk (0, bl s) []
theorem OwnT.below' {α : Type} {E : TE α} {A : Nat → Prop} {T : TypeId} {w w' : World} {base B : Nat} {v : Value} {ts : List (Tr α)} (h : OwnT E T A w base v ts) (hb : Below B w w') (hB : w.heap.size ≤ B) : OwnT E T A w' base v ts := h.below hb hB

set_option maxHeartbeats 4000000 in
theorem list_any (W w : World) (k : Nat) (v : Value) (ts : List Fd) (sv : Value) (l : List ByteArray) (h : WrAt W k w v ts) (hl : ts.length ≤ 1000) (hS : RowE encS w sv l) (hll : l.length ≤ 1000) : Calls Try.prog 82 #[.pointer (some ⟨k, 0, none⟩), sv] w (WrPost W k (ts ++ [.mk (0, []) (l.map bF)])) := by
  obtain ⟨ps, cs, rfl, b1, b2⟩ := RowE.shape encS hS
  have HS := Lib.hid hS
  have HW := Lib.hid h
  obtain ⟨p0, c0, hv0, s1, s2⟩ := h.2.1.shape
  subst hv0
  have HLT := Lib.hid h.lt
  unfold maxLen at b2 s2
  have R0 := Lib.hid (RowAt.new w #[.int .u64 0, .string ⟨#[]⟩, .slice none 0 0] 58)
  have HB0 := Lib.hid (bel1 w (.cells #[.int .u64 0, .string ⟨#[]⟩, .slice none 0 0] 58))
  have O0 : Hid (OwnT encFd 58 (fun b => w.heap.size < b) (w.alloc (.cells #[.int .u64 0, .string ⟨#[]⟩, .slice none 0 0] 58)) (w.heap.size + 1) (.slice none 0 0) ((l.take 0).map bF)) := Lib.hid (OwnT.nil _ _)
  clear h hS
  go_enter Try.func82, Try.ntmps82
  go_upto_region 2 with (fail)
  generalize w.alloc (.cells #[.int .u64 0, .string ⟨#[]⟩, .slice none 0 0] 58) = Wa at *
  go_loopw [9] (fun s9 wr => ∃ (i : Nat) (p : Option Addr) (c : Nat), i ≤ l.length ∧ s9 = .int .i64 i ∧ Hid (RowAt wr w.heap.size #[.int .u64 0, .string ⟨#[]⟩, .slice p i c] 58) ∧ Hid (OwnT encFd 58 (fun b => w.heap.size < b) wr (w.heap.size + 1) (.slice p i c) ((l.take i).map bF)) ∧ Hid (Below w.heap.size w wr)) (fun s _ => l.length - (intOf s).toNat)
  case atStart => exact ⟨0, none, 0, Nat.zero_le _, rfl, R0, O0, HB0⟩
  case round =>
    clear R0 O0 HB0
    obtain ⟨i, p, c, hi, rfl, h2, ho, hb⟩ := hrel
    have R := Lib.hid h2.out
    have O := Lib.hid ho.out
    have HB := Lib.hid hb.out
    clear h2 ho hb
    have HTL : Hid (((l.take i).map bF).length = i) := Lib.hid (by simp; omega)
    by_cases hlt : i < l.length
    · obtain ⟨s, hs⟩ : ∃ s, l[i]? = some s := ⟨_, List.getElem?_eq_getElem hlt⟩
      obtain ⟨_, _, _, hat⟩ := RowE.atS (RowE.below encS HS.out HB.out (Nat.le_refl _))
      obtain ⟨a, rfl, ha⟩ := hat i s hs
      have HTK : Hid ((l.take (i + 1)).map bF = (l.take i).map bF ++ [bF s]) := Lib.hid (by rw [List.take_add_one, hs]; simp)
      clear hat hs
      obtain ⟨x0, x1, x2, xf0, xf1, xf2⟩ := R.out.c3
      have R9 := Lib.hid (RowAt.new wr #[.int .u64 0, .string s, .slice none 0 0] 58)
      have O9 := Lib.hid (O.out.below (bel1 wr (.cells #[.int .u64 0, .string s, .slice none 0 0] 58)) (Nat.le_refl _))
      have R2 := Lib.hid (R.out.alloc (.cells #[.int .u64 0, .string s, .slice none 0 0] 58))
      have HB9 := Lib.hid (HB.out.trans ((bel1 wr (.cells #[.int .u64 0, .string s, .slice none 0 0] 58)).mono HB.out.size))
      have HSZ : Hid (w.heap.size + 1 ≤ (wr.alloc (.cells #[.int .u64 0, .string s, .slice none 0 0] 58)).heap.size) := Lib.hid R2.out.lt
      clear O
      go_upto_region 5 with (at_builtin; refine wpList_append_tree (E := encFd) (A := fun b => w.heap.size < b) Try.underlying22 info_field rfl (by omega) rfl _ _ rfl (w.heap.size + 1) _ ((l.take i).map bF) rfl O9.out ⟨wr.heap.size, 0, none⟩ (bF s) ((0, bl s), none, 0, 0) rfl (lit_cells R9.out rfl) (.leaf _ _ _ (by unfold maxLen; omega) (fun _ => rfl)) (by have := HTL.out; omega) HSZ.out ?_; intro v' w' ho hg hbb hz; obtain ⟨p', c', e, _, _⟩ := OwnT.shape ho; rw [List.length_append, HTL.out, List.length_singleton] at e; subst e; have hbk := hbb _ (Below.refl _ _); have R3 := Lib.hid (R2.out.below hbk (Nat.lt_succ_self _)); have O3 := Lib.hid ho; have HB3 := Lib.hid (HB9.out.trans (hbk.mono (Nat.le_succ _))); clear ho hg hbb hz hbk x0 x1 x2 xf0 xf1 xf2 ha; obtain ⟨x0, x1, x2, xf0, xf1, xf2⟩ := R3.out.c3)
      have R4 := Lib.hid (R3.out.set 2 (.slice p' (i + 1) c') rfl)
      have O4 : Hid (OwnT encFd 58 (fun b => w.heap.size < b) (w'.setCell ⟨w.heap.size, 2, none⟩ (.slice p' (i + 1) c')) (w.heap.size + 1) (.slice p' (i + 1) c') ((l.take (i + 1)).map bF)) := Lib.hid (by rw [HTK.out]; exact O3.out.setLow ⟨w.heap.size, 2, none⟩ _ (Nat.lt_succ_self _) (fun b hb => by simp only; omega))
      have HB4 := Lib.hid (HB3.out.setCell (p := ⟨w.heap.size, 2, none⟩) (Nat.le_refl _) (.slice p' (i + 1) c'))
      clear R R2 R3 O9 O3 HB HB9 HB3 HTL HTK
      go_wp2
      exact ⟨⟨i + 1, p', c', by omega, by simp, R4, O4, HB4⟩, by simp [intOf]; omega⟩
    · obtain rfl : i = l.length := by omega
      have HKD : Hid ((l.take l.length).map bF = l.map bF) := Lib.hid (by rw [List.take_length])
      have hkid : TreeP encFd (fun b => w.heap.size < b) wr (.mk (0, []) (l.map bF)) ((0, []), p, l.length, c) := RowT.node (s := (p, l.length, c)) (0, []) (by have := O.out.row (fun b hb => hb); rwa [HKD.out] at this)
      have hown : ∀ g, (Value.slice p0 ts.length c0).ownBlock = some g → g < w.heap.size := fun g hg => (HW.out.2.1.lt g hg).2
      have hW2 := HW.out.below HB.out
      obtain ⟨T, hrow⟩ := hW2.row
      have R1 := Lib.hid hrow
      obtain ⟨a0, af0⟩ := hrow.c1
      obtain ⟨x0, x1, x2, xf0, xf1, xf2⟩ := R.out.c3
      have HSW := Lib.hid HB.out.size
      have Z1 := Lib.hid (RowAt.new wr.drew #[.int .u64 0, .string ⟨#[]⟩, .slice none 0 0] 58)
      have O1 := Lib.hid (OwnT.below hW2.2.1 (((Below.refl wr.heap.size wr).drew).alloc (Nat.le_refl _) (.cells #[.int .u64 0, .string ⟨#[]⟩, .slice none 0 0] 58)) (Nat.le_refl _))
      have HA : Hid (∀ w0, Below W.heap.size w0 wr → Below W.heap.size w0 (wr.drew.alloc (.cells #[.int .u64 0, .string ⟨#[]⟩, .slice none 0 0] 58))) := Lib.hid (fun w0 hb => hb.drew.alloc (by have := HLT.out.2; have := HSW.out; exact Nat.le_trans HLT.out.2 HSW.out) _)
      have HKT := Lib.hid (TreeP.move (((Below.refl wr.heap.size wr).drew).alloc (Nat.le_refl _) (.cells #[.int .u64 0, .string ⟨#[]⟩, .slice none 0 0] 58)) (Nat.le_refl _) (TreeP.weaken (A' := fun b => W.heap.size ≤ b ∧ (Value.slice p0 ts.length c0).ownBlock ≠ some b) (fun b hb => ⟨by have := HLT.out.2; omega, fun e => by have := hown b e; omega⟩) hkid))
      have HOWN := Lib.hid hown
      have RF := Lib.hid (R.out.drew.alloc (.cells #[.int .u64 0, .string ⟨#[]⟩, .slice none 0 0] 58))
      have HW3 := Lib.hid hW2
      have hk : k < wr.heap.size := by have := HLT.out; have := HSW.out; omega
      have q9 : (ts.length : Int) < (ts.length : Int) + 1 := by omega
      have hfk : ¬ w.heap.size = k := by have := HLT.out; omega
      have hfl : w.heap.size < wr.heap.size := R.out.lt
      clear hkid hown hW2 hrow O hlt HTL
      go_upto_region 6 with (fail)
      go_region_law (refine step_append_tree (E := encFd) (A := fun b => W.heap.size ≤ b) Try.underlying22 info_field rfl (by omega) rfl _ _ rfl W.heap.size _ ts rfl O1.out ⟨wr.heap.size, 0, none⟩ (.mk (0, []) []) ((0, []), none, 0, 0) rfl (lit_cells (E := encFd) Z1.out rfl) (.leaf _ _ _ (by unfold maxLen; omega) (fun _ => rfl)) (by omega) (by have := HLT.out.2; have := HSW.out; simp; omega) ?_; intro v' w1 ho hg hbb hz hkp; obtain ⟨g, c', rfl, t1, t2, t3, t4, t5, t6, t7⟩ := ho.last; have hkg : ¬ k = g := (by have := HLT.out.1; omega); obtain ⟨u0, d0⟩ := t5 0 (by decide); obtain ⟨u1, d1⟩ := t5 1 (by decide); obtain ⟨u2, d2⟩ := t5 2 (by decide); replace d0 : w1.cell? ⟨g, ts.length * 3, none⟩ = some u0 := d0; replace d1 : w1.cell? ⟨g, ts.length * 3 + 1, none⟩ = some u1 := d1; replace d2 : w1.cell? ⟨g, ts.length * 3 + 2, none⟩ = some u2 := d2; have e0 : w1.cell? ⟨k, 0, none⟩ = some (.slice p0 ts.length c0) := (by rw [(hbb _ (Below.refl _ _)).cell HLT.out.1]; exact (R1.out.drew.alloc _).cell 0); have ef0 : w1.frozen? ⟨k, 0, none⟩ = false := (by rw [(hbb _ (Below.refl _ _)).frozen HLT.out.1]; exact (R1.out.drew.alloc _).frozen 0); have rf1 : RowAt w1 w.heap.size #[.int .u64 0, .string ⟨#[]⟩, .slice p l.length c] 58 := RowAt.grown RF.out hg (fun e => by have := HOWN.out w.heap.size e.symm; omega); obtain ⟨f0, f1, f2, -⟩ := rf1.c3; have HO := Lib.hid ho; have HBB := Lib.hid hbb; have HKP := Lib.hid (hkp _ _ HKT.out); clear ho hbb hg t5 t7 a0 af0 hkp rf1)
      all_goals
        go_wp2
        go_end0
        have hB2 : ∀ w0, Below W.heap.size w0 wr → Below W.heap.size w0 w1 := fun w0 h0 => HBB.out _ (HA.out w0 h0)
        have hy : TreeP encFd (fun b => W.heap.size ≤ b ∧ b ≠ g) w1 (.mk (0, []) (l.map bF)) ((0, []), p, l.length, c) := HKP.out.weaken (fun b hb => ⟨hb.1, fun e => hb.2 (by rw [e]; rfl)⟩)
        refine ⟨rfl, .slice (some ⟨g, 0, none⟩) (ts.length + 1) c', ?_⟩
        first
        | exact HW3.out.leafA hB2 HO.out (.mk (0, []) (l.map bF)) ((0, []), p, l.length, c) hy rfl
        | exact HW3.out.leafB hB2 HO.out (.mk (0, []) (l.map bF)) ((0, []), p, l.length, c) hy rfl
end Go.Proofs.Ythipnbiilobjeaa
