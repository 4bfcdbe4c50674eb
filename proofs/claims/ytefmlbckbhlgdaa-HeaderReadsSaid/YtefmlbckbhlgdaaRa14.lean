/- Header: what the writer's methods make of its row of fields. Header: the writer's method for a list. Vote: how two texts stand, whether one is among others, and what is made of it. Vote, the plain side: texts stand in an order, and votes do. Vote: whether an address is among others, how many votes are for the same, and whether addresses may be. Vote: how many votes are for the same; whether addresses may be. Vote: whether more than half have voted so, and whether a vote is one of a validator. -/
import Derived.Deep.RegionLaw
import Derived.Lib.Bytealg
import Derived.Test.YtefmlbckbhlgdaaRa0
import Derived.Test.YtefmlbckbhlgdaaRa2
import Derived.Test.YtefmlbckbhlgdaaRa10
namespace Go.Proofs.Ytefmlbckbhlgdaa
open Go.RowKit
set_option maxRecDepth 100000
section
variable {α : Type} {E : TE α} {A : Nat → Prop}
/-- One more tree behind the call's own row, as one step of a region that draws. -/
theorem step_append_tree {ts te : TypeId} {z : Value} {bytes : Nat} (ht : Try.prog.underlying ts = some (.slice te)) (hinf : (Try.prog.info? te).map (fun i => (i.zero, i.size, i.bytes)) = some (some z, E.n + 1, bytes)) (hzs : z.cells.size = E.n + 1) (hbb : bytes ≤ 1000)
    {ops : Array Oper} {o : Oper} {a : Act} {K : Act → World → Prop} {Q : Exit → Act → World → Prop} {F : Prop} {w : World} (hgd : o.guard = Option.none) (s x : Operand)
    (ho : o.op = .call { callee := .builtin .append, args := #[s, x], argTypes := #[ts, ts] }) (base : Nat) (v : Value) (l : List (Tr α)) (hs : a.eval s = v) (hown : OwnT E te A w base v l)
    (ad : Addr) (t : Tr α) (y : EV α) (hx : a.eval x = .slice (some ad) 1 1) (hc : ∀ j u, (E.enc.cells y)[j]? = some u → w.cell? (ad.add j) = some u) (hy : TreeP E (fun b => A b ∧ v.ownBlock ≠ some b) w t y)
    (hb : l.length + 1 ≤ 1000000) (hbase : base ≤ w.heap.size)
    (h : ∀ v' w', OwnT E te A w' base v' (l ++ [t]) → w.grownBy w' v.ownBlock → (∀ w0, Below base w0 w → Below base w0 w') → w.heap.size ≤ w'.heap.size → (∀ t x, TreeP E (fun b => A b ∧ v.ownBlock ≠ some b) w t x → TreeP E (fun b => A b ∧ v'.ownBlock ≠ some b) w' t x) → K (a.put o.dst v') w') :
    if Region.wanted o (yielded ops a.tmps) = true then Oper.wp Try.prog o a w K Q else F := by
  rw [if_pos (by simp [Region.wanted, hgd])]
  obtain ⟨xs, hl, hoe, htr⟩ := hown
  obtain ⟨v', w', hr, h1, h2, h3⟩ := run_append_one E.enc ht hinf hzs hbb w o.type base v xs hoe ad y hc (by omega) hbase
  unfold Oper.wp execOp
  simp only [ho, resolve, invoke, builtin, Sem.run_bind, Sem.run_pure, Result.andThen_ok, List.map_toArray, List.map_cons, List.map_nil, hs, hx, hr, Oper.upon]
  have hkeep : ∀ {t x}, TreeP E (fun b => A b ∧ v.ownBlock ≠ some b) w t x → TreeP E (fun b => (A b ∧ v.ownBlock ≠ some b) ∧ (b < w.heap.size)) w t x → TreeP E (fun b => A b ∧ v'.ownBlock ≠ some b) w' t x := fun _ hp => by
    refine hp.keep (fun a u ha hc => ?_) (fun a u ha hc => ?_) (fun b hb => ?_)
    · rw [World.cell?_of_block (h2.block _ ha.2 (Ne.symm ha.1.2))]
      exact hc
    · exact ⟨ha.1.1, fun e => (h3 _ e).elim ha.1.2 (fun h => absurd ha.2 (by omega))⟩
    · exact ⟨hb.1.1, fun e => (h3 _ e).elim hb.1.2 (fun h => absurd hb.2 (by omega))⟩
  have hlt : ∀ {t x}, TreeP E (fun b => A b ∧ v.ownBlock ≠ some b) w t x → TreeP E (fun b => (A b ∧ v.ownBlock ≠ some b) ∧ (b < w.heap.size)) w t x := fun {t x} hp => by
    induction hp with
    | leaf a p c hc hp => exact .leaf a p c hc hp
    | node a ks xs ad cap hn hl hAd hr hh ih => exact .node a ks xs ad cap hn hl ⟨hAd, RowE.lt hr (fun e => hn (List.eq_nil_of_length_eq_zero (by rw [← hl, e]; rfl)))⟩ hr ih
  refine h v' w' ⟨xs ++ [y], by simp [hl], h1, fun i t' x' e1 e2 => ?_⟩ h2 (below_grown hoe h2 hbase) h2.size (fun t x hp => hkeep hp (hlt hp))
  by_cases hi : i < l.length
  · rw [List.getElem?_append_left hi] at e1
    rw [List.getElem?_append_left (by omega)] at e2
    have := htr i t' x' e1 e2
    exact hkeep this (hlt this)
  · obtain rfl : i = l.length := by
      have := (List.getElem?_eq_some_iff.1 e1).1
      simp at this
      omega
    rw [List.getElem?_append_right (Nat.le_refl _), Nat.sub_self] at e1
    rw [List.getElem?_append_right (by omega), hl, Nat.sub_self] at e2
    simp at e1 e2
    subst e1 e2
    exact hkeep hy (hlt hy)

theorem layW_cell {g : Nat} {a : Addr} (h : a.block ≠ g) : ∀ (l : List Value) (w : World) (o : Nat), (layW w g o l).cell? a = w.cell? a
  | [], _, _ => rfl
  | v :: l, w, o => by rw [layW, layW_cell h l]; exact World.cell?_setCell_other _ _ _ _ (fun e => h (by rw [← e]))

/-- The last element of the call's own row, laid anew. -/
theorem OwnT.last {T : TypeId} {w : World} {base : Nat} {v : Value} {l : List (Tr α)} {t0 : Tr α} (h : OwnT E T A w base v (l ++ [t0])) : ∃ g c, v = .slice (some ⟨g, 0, none⟩) (l.length + 1) c ∧ l.length + 1 ≤ c ∧ c ≤ maxLen ∧ base ≤ g ∧ g < w.heap.size ∧ (∀ r, r < E.n + 1 → ∃ u, w.cell? ⟨g, l.length * (E.n + 1) + r, none⟩ = some u) ∧ (∀ r, w.frozen? ⟨g, r, none⟩ = false) ∧
    ∀ (t : Tr α) (y : EV α), TreeP E (fun b => A b ∧ b ≠ g) w t y → OwnT E T A (layW w g (l.length * (E.n + 1)) (E.enc.cells y)) base v (l ++ [t]) := by
  obtain ⟨p, c, rfl, s1, s2⟩ := h.shape
  obtain ⟨xs, hl, ho, ht⟩ := h
  rw [List.length_append, List.length_singleton] at hl s1 ho ⊢
  obtain ⟨x0, hx⟩ : ∃ x, xs[l.length]? = some x := ⟨_, List.getElem?_eq_getElem (by omega)⟩
  obtain ⟨g, rfl, g1, g2, g3, g4, g5⟩ := OwnE.at ho hx
  refine ⟨g, c, rfl, s1, s2, g1, g2, fun r hr => ⟨_, g3 r _ (List.getElem?_eq_getElem (by rw [E.enc.len]; exact hr))⟩, g4, fun t y hy => ?_⟩
  refine ⟨xs.set l.length y, by simp; omega, g5 y w (fun _ h => h), fun i t' x' e1 e2 => ?_⟩
  have hk : ∀ {t x}, TreeP E (fun b => A b ∧ b ≠ g) w t x → TreeP E (fun b => A b ∧ (Value.slice (some ⟨g, 0, none⟩) (l.length + 1) c).ownBlock ≠ some b) (layW w g (l.length * (E.n + 1)) (E.enc.cells y)) t x := fun hp =>
    hp.keep (fun a u ha hc => by rw [layW_cell ha.2]; exact hc) (fun a u ha _ => ⟨ha.1, by simpa [Value.ownBlock] using fun e => ha.2 e.symm⟩) (fun b hb => ⟨hb.1, by simpa [Value.ownBlock] using fun e => hb.2 e.symm⟩)
  by_cases hi : i < l.length
  · rw [List.getElem?_append_left hi] at e1
    rw [List.getElem?_set_ne (by omega)] at e2
    exact hk ((ht i t' x' (by rw [List.getElem?_append_left hi]; exact e1) e2).weaken fun b hb => ⟨hb.1, fun e => hb.2 (by rw [e]; rfl)⟩)
  · obtain rfl : i = l.length := by
      have := (List.getElem?_eq_some_iff.1 e1).1
      simp at this
      omega
    rw [List.getElem?_append_right (Nat.le_refl _), Nat.sub_self] at e1
    rw [List.getElem?_set_self (by omega)] at e2
    simp at e1 e2
    subst e1 e2
    exact hk hy
end
/-- The writer behind the pointer to block 'k' of 'W' holds 'v', the call's own row of the fields 'ts'; all else of 'W' is as it was. -/
def WrAt (W : World) (k : Nat) (w : World) (v : Value) (ts : List Fd) : Prop :=
  Below W.heap.size (W.setCell ⟨k, 0, none⟩ v) w ∧ OwnT encFd 64 (fun b => W.heap.size ≤ b) w W.heap.size v ts ∧ ∃ u T, RowAt W k #[u] T
def WrPost (W : World) (k : Nat) (ts : List Fd) (e : Ending) (w : World) : Prop := e = .returned (.tuple #[]) ∧ ∃ v, WrAt W k w v ts

theorem WrAt.row {W w : World} {k : Nat} {v : Value} {ts : List Fd} (h : WrAt W k w v ts) : ∃ T, RowAt w k #[v] T := by
  obtain ⟨hb, _, u, T, hr⟩ := h
  refine ⟨T, (hr.set 0 v (cs' := #[v]) rfl).below hb hr.lt⟩
theorem WrAt.lt {W w : World} {k : Nat} {v : Value} {ts : List Fd} (h : WrAt W k w v ts) : k < W.heap.size ∧ W.heap.size ≤ w.heap.size := by
  obtain ⟨hb, _, u, T, hr⟩ := h
  exact ⟨hr.lt, by have := hb.size; simpa using this⟩
theorem WrAt.below {W w w' : World} {k : Nat} {v : Value} {ts : List Fd} (h : WrAt W k w v ts) (hb : Below w.heap.size w w') : WrAt W k w' v ts :=
  ⟨h.1.trans (hb.mono h.lt.2), h.2.1.below hb (Nat.le_refl _), h.2.2⟩
theorem setCell_twice (W : World) (a : Addr) (v v' : Value) : (W.setCell a v).setCell a v' = W.setCell a v' := by
  unfold World.setCell
  congr 1
  apply Array.ext
  · simp
  · intro i h1 h2
    simp only [Array.getElem_modify]
    split
    · cases hW : W.heap[i]'(by simpa using h2) with
      | cells c T fz => simp; split <;> simp
      | _ => simp
    · rfl
theorem WrAt.put {W w w1 : World} {k : Nat} {v v' : Value} {ts ts' : List Fd} (h : WrAt W k w v ts) (hb : ∀ w0, Below W.heap.size w0 w → Below W.heap.size w0 w1) (ho : OwnT encFd 64 (fun b => W.heap.size ≤ b) (w1.setCell ⟨k, 0, none⟩ v') W.heap.size v' ts') : WrAt W k (w1.setCell ⟨k, 0, none⟩ v') v' ts' := by
  obtain ⟨hb0, _, hr⟩ := h
  refine ⟨?_, ho, hr⟩
  have := below_set (hb _ hb0) ⟨k, 0, none⟩ v' (by obtain ⟨u, T, hr⟩ := hr; exact hr.lt)
  rwa [setCell_twice] at this

theorem WrAt.leafA {W w w1 : World} {k g c : Nat} {v0 v : Value} {ts : List Fd} {t0 : Fd} (h : WrAt W k w v0 ts) (hb : ∀ w0, Below W.heap.size w0 w → Below W.heap.size w0 w1) (ho : OwnT encFd 64 (fun b => W.heap.size ≤ b) w1 W.heap.size (.slice (some ⟨g, 0, none⟩) (ts.length + 1) c) (ts ++ [t0]))
    (t : Fd) (y : EV (Nat × List UInt8)) (hy : TreeP encFd (fun b => W.heap.size ≤ b ∧ b ≠ g) w1 t y) (hv : v = .slice (some ⟨g, 0, none⟩) (ts.length + 1) c) : WrAt W k ((layW w1 g (ts.length * 3) (encFd.enc.cells y)).setCell ⟨k, 0, none⟩ v) v (ts ++ [t]) := by
  subst hv
  have hk := h.lt.1
  obtain ⟨g', c', e, _, _, t3, _, _, _, t7⟩ := ho.last
  injection e with e _ _
  injection e with e
  injection e with e _ _
  subst e
  refine h.put (fun w0 h0 => layW_below _ _ _ _ _ _ (hb w0 h0) t3) ?_
  exact (t7 t y hy).setLow ⟨k, 0, none⟩ _ hk (fun b hb e => by simp only at e; omega)
theorem WrAt.leafB {W w w1 : World} {k g c : Nat} {v0 v : Value} {ts : List Fd} {t0 : Fd} (h : WrAt W k w v0 ts) (hb : ∀ w0, Below W.heap.size w0 w → Below W.heap.size w0 w1) (ho : OwnT encFd 64 (fun b => W.heap.size ≤ b) w1 W.heap.size (.slice (some ⟨g, 0, none⟩) (ts.length + 1) c) (ts ++ [t0]))
    (t : Fd) (y : EV (Nat × List UInt8)) (hy : TreeP encFd (fun b => W.heap.size ≤ b ∧ b ≠ g) w1 t y) (hv : v = .slice (some ⟨g, 0, none⟩) (ts.length + 1) c) : WrAt W k (layW (w1.setCell ⟨k, 0, none⟩ v) g (ts.length * 3) (encFd.enc.cells y)) v (ts ++ [t]) := by
  subst hv
  have hk := h.lt.1
  have ho2 := ho.setLow ⟨k, 0, none⟩ (.slice (some ⟨g, 0, none⟩) (ts.length + 1) c) hk (fun b hb e => by simp only at e; omega)
  obtain ⟨g', c', e, _, _, t3, _, _, _, t7⟩ := ho2.last
  injection e with e _ _
  injection e with e
  injection e with e _ _
  subst e
  have hp := h.put hb ho2
  refine ⟨layW_below _ _ _ _ _ _ hp.1 t3, t7 t y (hy.keep (fun a u ha hc => ?_) (fun _ _ h _ => h) (fun _ h => h)), hp.2.2⟩
  rw [World.cell?_setCell_other]
  · exact hc
  · intro e; subst e; have := ha.1; simp only at this; omega

set_option maxHeartbeats 4000000 in
theorem text_any (W w : World) (k : Nat) (v : Value) (ts : List Fd) (s : ByteArray) (h : WrAt W k w v ts) (hl : ts.length ≤ 1000) : Calls Try.prog 118 #[.pointer (some ⟨k, 0, none⟩), .string s] w (WrPost W k (ts ++ [.mk (0, bl s) []])) := by
  obtain ⟨T, hrow⟩ := h.row
  have hlt := h.lt
  obtain ⟨p, c, rfl, s1, s2⟩ := h.2.1.shape
  have HW := Lib.hid h
  have R := Lib.hid hrow
  obtain ⟨a0, af0⟩ := hrow.c1
  have HLT := Lib.hid hlt
  have Z1 := Lib.hid (RowAt.new w.drew #[.int .u64 0, .string ⟨#[]⟩, .slice none 0 0] 64)
  have O1 := Lib.hid (OwnT.below h.2.1 (((Below.refl w.heap.size w).drew).alloc (Nat.le_refl _) (.cells #[.int .u64 0, .string ⟨#[]⟩, .slice none 0 0] 64)) (Nat.le_refl _))
  have HA : Hid (∀ w0, Below W.heap.size w0 w → Below W.heap.size w0 (w.drew.alloc (.cells #[.int .u64 0, .string ⟨#[]⟩, .slice none 0 0] 64))) := Lib.hid (fun w0 hb => hb.drew.alloc (by have := hlt.2; exact this) _)
  have hk : k < w.heap.size := by omega
  have q9 : (ts.length : Int) < (ts.length : Int) + 1 := by omega
  unfold maxLen at s2
  clear h hrow hlt
  go_enter Try.func118, Try.ntmps118
  go_region_law (refine step_append_tree (E := encFd) (A := fun b => W.heap.size ≤ b) Try.underlying60 info_field rfl (by omega) rfl _ _ rfl W.heap.size _ ts rfl O1.out ⟨w.heap.size, 0, none⟩ (.mk (0, []) []) ((0, []), none, 0, 0) rfl (lit_cells (E := encFd) Z1.out rfl) (.leaf _ _ _ (by unfold maxLen; omega) (fun _ => rfl)) (by omega) (by have := HLT.out.2; simp; omega) ?_; intro v' w1 ho hg hbb hz _; obtain ⟨g, c', rfl, t1, t2, t3, t4, t5, t6, t7⟩ := ho.last; have hkg : ¬ k = g := (by have := HLT.out.1; omega); obtain ⟨u0, d0⟩ := t5 0 (by decide); obtain ⟨u1, d1⟩ := t5 1 (by decide); obtain ⟨u2, d2⟩ := t5 2 (by decide); replace d0 : w1.cell? ⟨g, ts.length * 3, none⟩ = some u0 := d0; replace d1 : w1.cell? ⟨g, ts.length * 3 + 1, none⟩ = some u1 := d1; replace d2 : w1.cell? ⟨g, ts.length * 3 + 2, none⟩ = some u2 := d2; have e0 : w1.cell? ⟨k, 0, none⟩ = some (.slice p ts.length c) := (by rw [(hbb _ (Below.refl _ _)).cell HLT.out.1]; exact (R.out.drew.alloc _).cell 0); have ef0 : w1.frozen? ⟨k, 0, none⟩ = false := (by rw [(hbb _ (Below.refl _ _)).frozen HLT.out.1]; exact (R.out.drew.alloc _).frozen 0); have HO := Lib.hid ho; have HBB := Lib.hid hbb; clear ho hbb hg t5 t7 a0 af0)
  all_goals
    go_end0
    have hB2 : ∀ w0, Below W.heap.size w0 w → Below W.heap.size w0 w1 := fun w0 h0 => HBB.out _ (HA.out w0 h0)
    refine ⟨rfl, .slice (some ⟨g, 0, none⟩) (ts.length + 1) c', ?_⟩
    first
    | exact HW.out.leafA hB2 HO.out (.mk (0, bl s) []) ((0, bl s), none, 0, 0) (.leaf _ _ _ (by unfold maxLen; omega) (fun _ => rfl)) rfl
    | exact HW.out.leafB hB2 HO.out (.mk (0, bl s) []) ((0, bl s), none, 0, 0) (.leaf _ _ _ (by unfold maxLen; omega) (fun _ => rfl)) rfl

set_option maxHeartbeats 4000000 in
theorem number_anyW (W w : World) (k : Nat) (v : Value) (ts : List Fd) (n : Nat) (h : WrAt W k w v ts) (hl : ts.length ≤ 1000) : Calls Try.prog 119 #[.pointer (some ⟨k, 0, none⟩), .int .u64 (n : Int)] w (WrPost W k (ts ++ [.mk (n, []) []])) := by
  obtain ⟨T, hrow⟩ := h.row
  have hlt := h.lt
  obtain ⟨p, c, rfl, s1, s2⟩ := h.2.1.shape
  have HW := Lib.hid h
  have R := Lib.hid hrow
  obtain ⟨a0, af0⟩ := hrow.c1
  have HLT := Lib.hid hlt
  have Z1 := Lib.hid (RowAt.new w.drew #[.int .u64 0, .string ⟨#[]⟩, .slice none 0 0] 64)
  have O1 := Lib.hid (OwnT.below h.2.1 (((Below.refl w.heap.size w).drew).alloc (Nat.le_refl _) (.cells #[.int .u64 0, .string ⟨#[]⟩, .slice none 0 0] 64)) (Nat.le_refl _))
  have HA : Hid (∀ w0, Below W.heap.size w0 w → Below W.heap.size w0 (w.drew.alloc (.cells #[.int .u64 0, .string ⟨#[]⟩, .slice none 0 0] 64))) := Lib.hid (fun w0 hb => hb.drew.alloc (by have := hlt.2; exact this) _)
  have hk : k < w.heap.size := by omega
  have q9 : (ts.length : Int) < (ts.length : Int) + 1 := by omega
  unfold maxLen at s2
  clear h hrow hlt
  go_enter Try.func119, Try.ntmps119
  go_region_law (refine step_append_tree (E := encFd) (A := fun b => W.heap.size ≤ b) Try.underlying60 info_field rfl (by omega) rfl _ _ rfl W.heap.size _ ts rfl O1.out ⟨w.heap.size, 0, none⟩ (.mk (0, []) []) ((0, []), none, 0, 0) rfl (lit_cells (E := encFd) Z1.out rfl) (.leaf _ _ _ (by unfold maxLen; omega) (fun _ => rfl)) (by omega) (by have := HLT.out.2; simp; omega) ?_; intro v' w1 ho hg hbb hz _; obtain ⟨g, c', rfl, t1, t2, t3, t4, t5, t6, t7⟩ := ho.last; have hkg : ¬ k = g := (by have := HLT.out.1; omega); obtain ⟨u0, d0⟩ := t5 0 (by decide); obtain ⟨u1, d1⟩ := t5 1 (by decide); obtain ⟨u2, d2⟩ := t5 2 (by decide); replace d0 : w1.cell? ⟨g, ts.length * 3, none⟩ = some u0 := d0; replace d1 : w1.cell? ⟨g, ts.length * 3 + 1, none⟩ = some u1 := d1; replace d2 : w1.cell? ⟨g, ts.length * 3 + 2, none⟩ = some u2 := d2; have e0 : w1.cell? ⟨k, 0, none⟩ = some (.slice p ts.length c) := (by rw [(hbb _ (Below.refl _ _)).cell HLT.out.1]; exact (R.out.drew.alloc _).cell 0); have ef0 : w1.frozen? ⟨k, 0, none⟩ = false := (by rw [(hbb _ (Below.refl _ _)).frozen HLT.out.1]; exact (R.out.drew.alloc _).frozen 0); have HO := Lib.hid ho; have HBB := Lib.hid hbb; clear ho hbb hg t5 t7 a0 af0)
  all_goals
    go_end0
    have hB2 : ∀ w0, Below W.heap.size w0 w → Below W.heap.size w0 w1 := fun w0 h0 => HBB.out _ (HA.out w0 h0)
    refine ⟨rfl, .slice (some ⟨g, 0, none⟩) (ts.length + 1) c', ?_⟩
    first
    | exact HW.out.leafA hB2 HO.out (.mk (n, []) []) ((n, []), none, 0, 0) (.leaf _ _ _ (by unfold maxLen; omega) (fun _ => rfl)) rfl
    | exact HW.out.leafB hB2 HO.out (.mk (n, []) []) ((n, []), none, 0, 0) (.leaf _ _ _ (by unfold maxLen; omega) (fun _ => rfl)) rfl
end Go.Proofs.Ytefmlbckbhlgdaa
namespace Go.Proofs.Ytefmlbckbhlgdaa
open Go.RowKit
set_option maxRecDepth 100000
/-- Texts as fields. -/
abbrev bF (s : ByteArray) : Fd := .mk (0, bl s) []
set_option maxHeartbeats 4000000 in
theorem list_any (W w : World) (k : Nat) (v : Value) (ts : List Fd) (sv : Value) (l : List ByteArray) (h : WrAt W k w v ts) (hl : ts.length ≤ 1000) (hS : RowE encS w sv l) (hll : l.length ≤ 1000) : Calls Try.prog 120 #[.pointer (some ⟨k, 0, none⟩), sv] w (WrPost W k (ts ++ [.mk (0, []) (l.map bF)])) := by
  obtain ⟨ps, cs, rfl, b1, b2⟩ := RowE.shape encS hS
  have HS := Lib.hid hS
  have HW := Lib.hid h
  obtain ⟨p0, c0, hv0, s1, s2⟩ := h.2.1.shape
  subst hv0
  have HLT := Lib.hid h.lt
  unfold maxLen at b2 s2
  have R0 := Lib.hid (RowAt.new w #[.int .u64 0, .string ⟨#[]⟩, .slice none 0 0] 64)
  have HB0 := Lib.hid (bel1 w (.cells #[.int .u64 0, .string ⟨#[]⟩, .slice none 0 0] 64))
  have O0 : Hid (OwnT encFd 64 (fun b => w.heap.size < b) (w.alloc (.cells #[.int .u64 0, .string ⟨#[]⟩, .slice none 0 0] 64)) (w.heap.size + 1) (.slice none 0 0) ((l.take 0).map bF)) := Lib.hid (OwnT.nil _ _)
  clear h hS
  go_enter Try.func120, Try.ntmps120
  go_upto_region 2 with (fail)
  generalize w.alloc (.cells #[.int .u64 0, .string ⟨#[]⟩, .slice none 0 0] 64) = Wa at *
  go_loopw [9] (fun s9 wr => ∃ (i : Nat) (p : Option Addr) (c : Nat), i ≤ l.length ∧ s9 = .int .i64 i ∧ Hid (RowAt wr w.heap.size #[.int .u64 0, .string ⟨#[]⟩, .slice p i c] 64) ∧ Hid (OwnT encFd 64 (fun b => w.heap.size < b) wr (w.heap.size + 1) (.slice p i c) ((l.take i).map bF)) ∧ Hid (Below w.heap.size w wr)) (fun s _ => l.length - (intOf s).toNat)
  case atStart => exact ⟨0, none, 0, Nat.zero_le _, rfl, R0, O0, HB0⟩
  case round =>
    clear R0 O0 HB0
    obtain ⟨i, p, c, hi, rfl, h2, ho, hb⟩ := hrel
    have R := Lib.hid h2.out
    have O := Lib.hid ho.out
    have HB := Lib.hid hb.out
    clear h2 ho hb
    have HTL : Hid (((l.take i).map bF).length = i) := Lib.hid (by simp; omega)
    by_cases hlt : i < l.length
    · obtain ⟨s, hs⟩ : ∃ s, l[i]? = some s := ⟨_, List.getElem?_eq_getElem hlt⟩
      obtain ⟨_, _, _, hat⟩ := RowE.atS (RowE.below encS HS.out HB.out (Nat.le_refl _))
      obtain ⟨a, rfl, ha⟩ := hat i s hs
      have HTK : Hid ((l.take (i + 1)).map bF = (l.take i).map bF ++ [bF s]) := Lib.hid (by rw [List.take_add_one, hs]; simp)
      clear hat hs
      obtain ⟨x0, x1, x2, xf0, xf1, xf2⟩ := R.out.c3
      have R9 := Lib.hid (RowAt.new wr #[.int .u64 0, .string s, .slice none 0 0] 64)
      have O9 := Lib.hid (O.out.below (bel1 wr (.cells #[.int .u64 0, .string s, .slice none 0 0] 64)) (Nat.le_refl _))
      have R2 := Lib.hid (R.out.alloc (.cells #[.int .u64 0, .string s, .slice none 0 0] 64))
      have HB9 := Lib.hid (HB.out.trans ((bel1 wr (.cells #[.int .u64 0, .string s, .slice none 0 0] 64)).mono HB.out.size))
      have HSZ : Hid (w.heap.size + 1 ≤ (wr.alloc (.cells #[.int .u64 0, .string s, .slice none 0 0] 64)).heap.size) := Lib.hid R2.out.lt
      clear O
      go_upto_region 5 with (at_builtin; refine wpList_append_tree (E := encFd) (A := fun b => w.heap.size < b) Try.underlying60 info_field rfl (by omega) rfl _ _ rfl (w.heap.size + 1) _ ((l.take i).map bF) rfl O9.out ⟨wr.heap.size, 0, none⟩ (bF s) ((0, bl s), none, 0, 0) rfl (lit_cells R9.out rfl) (.leaf _ _ _ (by unfold maxLen; omega) (fun _ => rfl)) (by have := HTL.out; omega) HSZ.out ?_; intro v' w' ho hg hbb hz; obtain ⟨p', c', e, _, _⟩ := OwnT.shape ho; rw [List.length_append, HTL.out, List.length_singleton] at e; subst e; have hbk := hbb _ (Below.refl _ _); have R3 := Lib.hid (R2.out.below hbk (Nat.lt_succ_self _)); have O3 := Lib.hid ho; have HB3 := Lib.hid (HB9.out.trans (hbk.mono (Nat.le_succ _))); clear ho hg hbb hz hbk x0 x1 x2 xf0 xf1 xf2 ha; obtain ⟨x0, x1, x2, xf0, xf1, xf2⟩ := R3.out.c3)
      have R4 := Lib.hid (R3.out.set 2 (.slice p' (i + 1) c') rfl)
      have O4 : Hid (OwnT encFd 64 (fun b => w.heap.size < b) (w'.setCell ⟨w.heap.size, 2, none⟩ (.slice p' (i + 1) c')) (w.heap.size + 1) (.slice p' (i + 1) c') ((l.take (i + 1)).map bF)) := Lib.hid (by rw [HTK.out]; exact O3.out.setLow ⟨w.heap.size, 2, none⟩ _ (Nat.lt_succ_self _) (fun b hb => by simp only; omega))
      have HB4 := Lib.hid (HB3.out.setCell (p := ⟨w.heap.size, 2, none⟩) (Nat.le_refl _) (.slice p' (i + 1) c'))
      clear R R2 R3 O9 O3 HB HB9 HB3 HTL HTK
      go_wp2
      exact ⟨⟨i + 1, p', c', by omega, by simp, R4, O4, HB4⟩, by simp [intOf]; omega⟩
    · obtain rfl : i = l.length := by omega
      have HKD : Hid ((l.take l.length).map bF = l.map bF) := Lib.hid (by rw [List.take_length])
      have hkid : TreeP encFd (fun b => w.heap.size < b) wr (.mk (0, []) (l.map bF)) ((0, []), p, l.length, c) := RowT.node (s := (p, l.length, c)) (0, []) (by have := O.out.row (fun b hb => hb); rwa [HKD.out] at this)
      have hown : ∀ g, (Value.slice p0 ts.length c0).ownBlock = some g → g < w.heap.size := fun g hg => (HW.out.2.1.lt g hg).2
      have hW2 := HW.out.below HB.out
      obtain ⟨T, hrow⟩ := hW2.row
      have R1 := Lib.hid hrow
      obtain ⟨a0, af0⟩ := hrow.c1
      obtain ⟨x0, x1, x2, xf0, xf1, xf2⟩ := R.out.c3
      have HSW := Lib.hid HB.out.size
      have Z1 := Lib.hid (RowAt.new wr.drew #[.int .u64 0, .string ⟨#[]⟩, .slice none 0 0] 64)
      have O1 := Lib.hid (OwnT.below hW2.2.1 (((Below.refl wr.heap.size wr).drew).alloc (Nat.le_refl _) (.cells #[.int .u64 0, .string ⟨#[]⟩, .slice none 0 0] 64)) (Nat.le_refl _))
      have HA : Hid (∀ w0, Below W.heap.size w0 wr → Below W.heap.size w0 (wr.drew.alloc (.cells #[.int .u64 0, .string ⟨#[]⟩, .slice none 0 0] 64))) := Lib.hid (fun w0 hb => hb.drew.alloc (by have := HLT.out.2; have := HSW.out; exact Nat.le_trans HLT.out.2 HSW.out) _)
      have HKT := Lib.hid (TreeP.move (((Below.refl wr.heap.size wr).drew).alloc (Nat.le_refl _) (.cells #[.int .u64 0, .string ⟨#[]⟩, .slice none 0 0] 64)) (Nat.le_refl _) (TreeP.weaken (A' := fun b => W.heap.size ≤ b ∧ (Value.slice p0 ts.length c0).ownBlock ≠ some b) (fun b hb => ⟨by have := HLT.out.2; omega, fun e => by have := hown b e; omega⟩) hkid))
      have HOWN := Lib.hid hown
      have RF := Lib.hid (R.out.drew.alloc (.cells #[.int .u64 0, .string ⟨#[]⟩, .slice none 0 0] 64))
      have HW3 := Lib.hid hW2
      have hk : k < wr.heap.size := by have := HLT.out; have := HSW.out; omega
      have q9 : (ts.length : Int) < (ts.length : Int) + 1 := by omega
      have hfk : ¬ w.heap.size = k := by have := HLT.out; omega
      have hfl : w.heap.size < wr.heap.size := R.out.lt
      clear hkid hown hW2 hrow O hlt HTL
      go_upto_region 6 with (fail)
      go_region_law (refine step_append_tree (E := encFd) (A := fun b => W.heap.size ≤ b) Try.underlying60 info_field rfl (by omega) rfl _ _ rfl W.heap.size _ ts rfl O1.out ⟨wr.heap.size, 0, none⟩ (.mk (0, []) []) ((0, []), none, 0, 0) rfl (lit_cells (E := encFd) Z1.out rfl) (.leaf _ _ _ (by unfold maxLen; omega) (fun _ => rfl)) (by omega) (by have := HLT.out.2; have := HSW.out; simp; omega) ?_; intro v' w1 ho hg hbb hz hkp; obtain ⟨g, c', rfl, t1, t2, t3, t4, t5, t6, t7⟩ := ho.last; have hkg : ¬ k = g := (by have := HLT.out.1; omega); obtain ⟨u0, d0⟩ := t5 0 (by decide); obtain ⟨u1, d1⟩ := t5 1 (by decide); obtain ⟨u2, d2⟩ := t5 2 (by decide); replace d0 : w1.cell? ⟨g, ts.length * 3, none⟩ = some u0 := d0; replace d1 : w1.cell? ⟨g, ts.length * 3 + 1, none⟩ = some u1 := d1; replace d2 : w1.cell? ⟨g, ts.length * 3 + 2, none⟩ = some u2 := d2; have e0 : w1.cell? ⟨k, 0, none⟩ = some (.slice p0 ts.length c0) := (by rw [(hbb _ (Below.refl _ _)).cell HLT.out.1]; exact (R1.out.drew.alloc _).cell 0); have ef0 : w1.frozen? ⟨k, 0, none⟩ = false := (by rw [(hbb _ (Below.refl _ _)).frozen HLT.out.1]; exact (R1.out.drew.alloc _).frozen 0); have rf1 : RowAt w1 w.heap.size #[.int .u64 0, .string ⟨#[]⟩, .slice p l.length c] 64 := RowAt.grown RF.out hg (fun e => by have := HOWN.out w.heap.size e.symm; omega); obtain ⟨f0, f1, f2, -⟩ := rf1.c3; have HO := Lib.hid ho; have HBB := Lib.hid hbb; have HKP := Lib.hid (hkp _ _ HKT.out); clear ho hbb hg t5 t7 a0 af0 hkp rf1)
      all_goals
        go_wp2
        go_end0
        have hB2 : ∀ w0, Below W.heap.size w0 wr → Below W.heap.size w0 w1 := fun w0 h0 => HBB.out _ (HA.out w0 h0)
        have hy : TreeP encFd (fun b => W.heap.size ≤ b ∧ b ≠ g) w1 (.mk (0, []) (l.map bF)) ((0, []), p, l.length, c) := HKP.out.weaken (fun b hb => ⟨hb.1, fun e => hb.2 (by rw [e]; rfl)⟩)
        refine ⟨rfl, .slice (some ⟨g, 0, none⟩) (ts.length + 1) c', ?_⟩
        first
        | exact HW3.out.leafA hB2 HO.out (.mk (0, []) (l.map bF)) ((0, []), p, l.length, c) hy rfl
        | exact HW3.out.leafB hB2 HO.out (.mk (0, []) (l.map bF)) ((0, []), p, l.length, c) hy rfl
end Go.Proofs.Ytefmlbckbhlgdaa
namespace Go.Proofs.Ytefmlbckbhlgdaa
open Go.RowKit
def hasL (l : List ByteArray) (a : ByteArray) : Bool := l.any fun x => decide (x = a)
end Go.Proofs.Ytefmlbckbhlgdaa
namespace Go.Proofs.Ytefmlbckbhlgdaa
open Go.RowKit
abbrev ltL (a b : List UInt8) : Bool := Op.bytesLess a b
theorem ltL_irr : ∀ a : List UInt8, ltL a a = false
  | [] => rfl
  | x :: l => by
    have := ltL_irr l
    unfold ltL at *
    simp [Op.bytesLess, this]
theorem ltL_trans : ∀ a b c : List UInt8, ltL a b = true → ltL b c = true → ltL a c = true
  | _, _, [], _, h => by cases ‹List UInt8› <;> simp [ltL, Op.bytesLess] at h
  | _, [], _ :: _, h, _ => by unfold ltL Op.bytesLess at h; cases h
  | [], _ :: _, _ :: _, _, _ => rfl
  | x :: a, y :: b, z :: c, h1, h2 => by
    unfold ltL at *
    simp only [Op.bytesLess, Bool.or_eq_true, decide_eq_true_eq, Bool.and_eq_true, beq_iff_eq] at h1 h2 ⊢
    rcases h1 with h1 | ⟨rfl, h1⟩
    · rcases h2 with h2 | ⟨rfl, h2⟩
      · exact .inl (UInt8.lt_trans h1 h2)
      · exact .inl h1
    · rcases h2 with h2 | ⟨rfl, h2⟩
      · exact .inl h2
      · exact .inr ⟨rfl, ltL_trans a b c h1 h2⟩
theorem ltL_tri : ∀ a b : List UInt8, ltL a b = true ∨ a = b ∨ ltL b a = true
  | [], [] => .inr (.inl rfl)
  | [], _ :: _ => .inl rfl
  | _ :: _, [] => .inr (.inr rfl)
  | x :: a, y :: b => by
    unfold ltL
    simp only [Op.bytesLess, Bool.or_eq_true, decide_eq_true_eq, Bool.and_eq_true, beq_iff_eq]
    by_cases h : x < y
    · exact .inl (.inl h)
    · by_cases h' : y < x
      · exact .inr (.inr (.inl h'))
      · have e : x = y := UInt8.le_antisymm (UInt8.not_lt.1 h') (UInt8.not_lt.1 h)
        subst e
        rcases ltL_tri a b with h1 | h1 | h1
        · exact .inl (.inr ⟨rfl, h1⟩)
        · exact .inr (.inl (by rw [h1]))
        · exact .inr (.inr (.inr ⟨rfl, h1⟩))
/-- The model's order of texts. -/
abbrev ltS (a b : ByteArray) : Bool := Op.bytesLess a.toList b.toList
theorem ltS_irr (a : ByteArray) : ltS a a = false := ltL_irr _
theorem ltS_trans {a b c : ByteArray} (h1 : ltS a b = true) (h2 : ltS b c = true) : ltS a c = true := ltL_trans _ _ _ h1 h2
theorem ltS_tri (a b : ByteArray) : ltS a b = true ∨ a = b ∨ ltS b a = true := by
  rcases ltL_tri a.toList b.toList with h | h | h
  · exact .inl h
  · exact .inr (.inl (bl_inj (by rw [← toList_bl, h, toList_bl])))
  · exact .inr (.inr h)
theorem ltS_asym {a b : ByteArray} (h : ltS a b = true) : ltS b a = false := by
  cases e : ltS b a with
  | false => rfl
  | true => have := ltS_trans h e; rw [ltS_irr] at this; cases this
theorem ltS_ne {a b : ByteArray} (h : ltS a b = true) : a ≠ b := fun e => by subst e; rw [ltS_irr] at h; cases h
theorem ltS_not (a b : ByteArray) : (!ltS a b) = (ltS b a || (b.toList == a.toList)) := by
  rw [seq_dec]
  rcases ltS_tri a b with h | h | h
  · simp [h, ltS_asym h, (ltS_ne h).symm]
  · subst h; simp [ltS_irr]
  · simp [h, ltS_asym h]
/-- One vote stands ahead of another. -/
def ltB (a b : Bal) : Bool := if a.2.1 ≠ b.2.1 then ltS a.2.1 b.2.1 else ltS a.1 b.1
/-- They stand at the same place. -/
def keyB (a b : Bal) : Prop := a.2.1 = b.2.1 ∧ a.1 = b.1
theorem keyB.symm {a b : Bal} (h : keyB a b) : keyB b a := ⟨h.1.symm, h.2.symm⟩
end Go.Proofs.Ytefmlbckbhlgdaa
namespace Go.Proofs.Ytefmlbckbhlgdaa
open Go.RowKit
def cntL (V : List Bal) (b : Bal) : Nat := V.countP fun x => decide (x.2.1 = b.2.1) && (x.2.2 == b.2.2)
end Go.Proofs.Ytefmlbckbhlgdaa
namespace Go.Proofs.Ytefmlbckbhlgdaa
open Go.RowKit
/-- Addresses may be the set of validators. -/
def SetOk (l : List ByteArray) : Prop := (∀ (j : Nat) x, l[j]? = some x → x.size = 20) ∧ (∀ (j : Nat) x y, l[j]? = some x → l[j + 1]? = some y → ltS x y = true) ∧ 1 ≤ l.length ∧ l.length ≤ 16
noncomputable def setL (l : List ByteArray) : Bool := @decide (SetOk l) (Classical.propDecidable _)
theorem setL_true {l : List ByteArray} (h : SetOk l) : setL l = true := by unfold setL; exact @decide_eq_true _ (Classical.propDecidable _) h
theorem setL_false {l : List ByteArray} (h : ¬ SetOk l) : setL l = false := by unfold setL; exact @decide_eq_false _ (Classical.propDecidable _) h
/-- What is gone through may be. -/
def SetTo (l : List ByteArray) (k : Nat) : Prop := (∀ (j : Nat) x, j < k → l[j]? = some x → x.size = 20) ∧ (∀ (j : Nat) x y, j + 1 < k → l[j]? = some x → l[j + 1]? = some y → ltS x y = true)
theorem SetTo.step {l : List ByteArray} {k : Nat} {x : ByteArray} (h : SetTo l k) (hx : l[k]? = some x) (hs : x.size = 20) (hp : ∀ j y, k = j + 1 → l[j]? = some y → ltS y x = true) : SetTo l (k + 1) := by
  refine ⟨fun j y hj hy => ?_, fun j y z hj hy hz => ?_⟩
  · by_cases e : j = k
    · subst e; rw [hx] at hy; injection hy with e; subst e; exact hs
    · exact h.1 j y (by omega) hy
  · by_cases e : j + 1 = k
    · subst e; rw [hx] at hz; injection hz with e; subst e; exact hp j y rfl hy
    · exact h.2 j y z (by omega) hy hz
theorem SetTo.all {l : List ByteArray} (h : SetTo l l.length) (h1 : 1 ≤ l.length) (h2 : l.length ≤ 16) : SetOk l :=
  ⟨fun j x hx => h.1 j x (List.getElem?_eq_some_iff.1 hx).1 hx, fun j x y hx hy => h.2 j x y (List.getElem?_eq_some_iff.1 hy).1 hx hy, h1, h2⟩

set_option maxRecDepth 100000 in
set_option maxHeartbeats 4000000 in
theorem rset_any (v : Value) (l : List ByteArray) (w : World) (h : RowE encS w v l) (hl : l.length ≤ 1000000) :
    Calls Try.prog 65 #[v] w fun e w' => e = .returned (.bool (setL l)) ∧ w = w' := by
  obtain ⟨p, cap, rfl, h1, h2⟩ := h.shape
  have H := Lib.hid h.atS.2.2.2
  clear h
  go_enter Try.func65, Try.ntmps65
  go_wp2
  go_loop [7] (fun c => ∃ k : Nat, k ≤ l.length ∧ c = .int .i64 k ∧ Hid (SetTo l k)) (fun c => l.length - (intOf c).toNat)
  case atStart => exact ⟨0, Nat.zero_le _, rfl, Lib.hid ⟨fun _ _ h => by omega, fun _ _ _ h => by omega⟩⟩
  case round =>
    obtain ⟨k, hk, rfl, hto⟩ := hrel
    by_cases hlt : k < l.length
    · have hg := List.getElem?_eq_getElem hlt
      obtain ⟨ad, rfl, hc⟩ := H.out k l[k] hg
      generalize l[k] = x at *
      by_cases hs : x.size = 20
      · have hs' : ((x.size : Int) == 20) = true := by simp; omega
        by_cases hk0 : k = 0
        · have hnx := hto.out.step hg hs (fun j y e => by omega)
          subst hk0
          rw [Addr.add_zero'] at hc
          go_wp2_with fail
          refine ⟨⟨1, by omega, by simp, Lib.hid hnx⟩, by simp [intOf]; omega⟩
        · obtain ⟨i, hi⟩ : ∃ i, k = i + 1 := ⟨k - 1, by omega⟩
          have hg0 := List.getElem?_eq_getElem (show i < l.length by omega)
          obtain ⟨_, e, hc0⟩ := H.out i l[i] hg0
          cases e
          generalize l[i] = y at *
          have hgi : l[i + 1]? = some x := by rw [← hi]; exact hg
          have htn : ((k : Int) - 1).toNat = i := by omega
          have hp : (k : Int) > 0 := by omega
          have hp0 : 0 ≤ (k : Int) - 1 := by omega
          have hp1 : (k : Int) - 1 < l.length := by omega
          by_cases hy : ltS y x = true
          · have hnx := hto.out.step hg hs (fun j z e hz => by
              obtain rfl : j = i := by omega
              rw [hg0] at hz
              injection hz with e
              subst e
              exact hy)
            have hy1 := ltS_asym hy
            have hy2 := seq_false (ltS_ne hy).symm
            clear hi hgi hg hg0
            go_wp2_with fail
            refine ⟨⟨k + 1, by omega, by simp, Lib.hid hnx⟩, by simp [intOf]; omega⟩
          · have hno : setL l = false := setL_false (fun h => hy (h.2.1 i y x hg0 hgi))
            have hy' : ltS y x = false := by simpa using hy
            have hy1 : (ltS x y || (x.toList == y.toList)) = true := by rw [← ltS_not, hy']; rfl
            clear hi hgi hg hg0
            go_wp2_with fail
            go_ret
            exact ⟨rfl, rfl⟩
      · have hno : setL l = false := setL_false (fun h => hs (h.1 k x hg))
        go_wp2_with fail
        go_ret
        exact ⟨rfl, rfl⟩
    · obtain rfl : k = l.length := by omega
      by_cases h16 : 1 ≤ l.length ∧ l.length ≤ 16
      · have hyes : setL l = true := setL_true (hto.out.all h16.1 h16.2)
        have h16' := h16.1
        have h16'' : decide ((l.length : Int) ≤ 16) = true := by simp; omega
        go_wp2_with fail
        go_ret
        exact ⟨rfl, rfl⟩
      · have hno : setL l = false := setL_false (fun h => h16 h.2.2)
        go_wp2_with fail
        · go_ret
          have h16'' : decide ((l.length : Int) ≤ 16) = false := by simp; omega
          exact ⟨by rw [h16'']; rfl, rfl⟩
        · go_ret
          exact ⟨rfl, rfl⟩
end Go.Proofs.Ytefmlbckbhlgdaa
namespace Go.Proofs.Ytefmlbckbhlgdaa
open Go.RowKit
def wonL (S : List ByteArray) (V : List Bal) (b : Bal) : Bool := decide (2 * cntL V b > S.length)
def standsL (S : List ByteArray) (b : Bal) : Bool := hasL S b.1 && (b.2.1.size == 20) && (hasL S b.2.1 == !b.2.2)

theorem belowA (w : World) (o : Obj) : Below w.heap.size w (w.alloc o) := (Below.refl _ w).alloc (Nat.le_refl _) o
theorem belowA2 (w : World) (o o' : Obj) : Below w.heap.size w ((w.alloc o).alloc o') := (belowA w o).alloc (by simp) o'

end Go.Proofs.Ytefmlbckbhlgdaa
