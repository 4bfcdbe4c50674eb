/- Header: what the writer's methods make of its row of fields. Header: the writer's method for a list. A node's sum is told: the program's. -/
import Derived.Deep.RegionLaw
import Derived.Deep.CutBlock
import Derived.Test.YtefmlbckbhlgdaaTm5
import Derived.Test.YtefmlbckbhlgdaaTm11
import Derived.Test.YtefmlbckbhlgdaaTm18
namespace Go.Proofs.Ytefmlbckbhlgdaa
open Go.RowKit
set_option maxRecDepth 100000
section
variable {α : Type} {E : TE α} {A : Nat → Prop}
/-- One more tree behind the call's own row, as one step of a region that draws. -/
theorem step_append_tree {ts te : TypeId} {z : Value} {bytes : Nat} (ht : Try.prog.underlying ts = some (.slice te)) (hinf : (Try.prog.info? te).map (fun i => (i.zero, i.size, i.bytes)) = some (some z, E.n + 1, bytes)) (hzs : z.cells.size = E.n + 1) (hbb : bytes ≤ 1000)
    {ops : Array Oper} {o : Oper} {a : Act} {K : Act → World → Prop} {Q : Exit → Act → World → Prop} {F : Prop} {w : World} (hgd : o.guard = Option.none) (s x : Operand)
    (ho : o.op = .call { callee := .builtin .append, args := #[s, x], argTypes := #[ts, ts] }) (base : Nat) (v : Value) (l : List (Tr α)) (hs : a.eval s = v) (hown : OwnT E te A w base v l)
    (ad : Addr) (t : Tr α) (y : EV α) (hx : a.eval x = .slice (some ad) 1 1) (hc : ∀ j u, (E.enc.cells y)[j]? = some u → w.cell? (ad.add j) = some u) (hy : TreeP E (fun b => A b ∧ v.ownBlock ≠ some b) w t y)
    (hb : l.length + 1 ≤ 1000000) (hbase : base ≤ w.heap.size)
    (h : ∀ v' w', OwnT E te A w' base v' (l ++ [t]) → w.grownBy w' v.ownBlock → (∀ w0, Below base w0 w → Below base w0 w') → w.heap.size ≤ w'.heap.size → (∀ t x, TreeP E (fun b => A b ∧ v.ownBlock ≠ some b) w t x → TreeP E (fun b => A b ∧ v'.ownBlock ≠ some b) w' t x) → K (a.put o.dst v') w') :
    if Region.wanted o (yielded ops a.tmps) = true then Oper.wp Try.prog o a w K Q else F := by
  rw [if_pos (by simp [Region.wanted, hgd])]
  obtain ⟨xs, hl, hoe, htr⟩ := hown
  obtain ⟨v', w', hr, h1, h2, h3⟩ := run_append_one E.enc ht hinf hzs hbb w o.type base v xs hoe ad y hc (by omega) hbase
  unfold Oper.wp execOp
  simp only [ho, resolve, invoke, builtin, Sem.run_bind, Sem.run_pure, Result.andThen_ok, List.map_toArray, List.map_cons, List.map_nil, hs, hx, hr, Oper.upon]
  have hkeep : ∀ {t x}, TreeP E (fun b => A b ∧ v.ownBlock ≠ some b) w t x → TreeP E (fun b => (A b ∧ v.ownBlock ≠ some b) ∧ (b < w.heap.size)) w t x → TreeP E (fun b => A b ∧ v'.ownBlock ≠ some b) w' t x := fun _ hp => by
    refine hp.keep (fun a u ha hc => ?_) (fun a u ha hc => ?_) (fun b hb => ?_)
    · rw [World.cell?_of_block (h2.block _ ha.2 (Ne.symm ha.1.2))]
      exact hc
    · exact ⟨ha.1.1, fun e => (h3 _ e).elim ha.1.2 (fun h => absurd ha.2 (by omega))⟩
    · exact ⟨hb.1.1, fun e => (h3 _ e).elim hb.1.2 (fun h => absurd hb.2 (by omega))⟩
  have hlt : ∀ {t x}, TreeP E (fun b => A b ∧ v.ownBlock ≠ some b) w t x → TreeP E (fun b => (A b ∧ v.ownBlock ≠ some b) ∧ (b < w.heap.size)) w t x := fun {t x} hp => by
    induction hp with
    | leaf a p c hc hp => exact .leaf a p c hc hp
    | node a ks xs ad cap hn hl hAd hr hh ih => exact .node a ks xs ad cap hn hl ⟨hAd, RowE.lt hr (fun e => hn (List.eq_nil_of_length_eq_zero (by rw [← hl, e]; rfl)))⟩ hr ih
  refine h v' w' ⟨xs ++ [y], by simp [hl], h1, fun i t' x' e1 e2 => ?_⟩ h2 (below_grown hoe h2 hbase) h2.size (fun t x hp => hkeep hp (hlt hp))
  by_cases hi : i < l.length
  · rw [List.getElem?_append_left hi] at e1
    rw [List.getElem?_append_left (by omega)] at e2
    have := htr i t' x' e1 e2
    exact hkeep this (hlt this)
  · obtain rfl : i = l.length := by
      have := (List.getElem?_eq_some_iff.1 e1).1
      simp at this
      omega
    rw [List.getElem?_append_right (Nat.le_refl _), Nat.sub_self] at e1
    rw [List.getElem?_append_right (by omega), hl, Nat.sub_self] at e2
    simp at e1 e2
    subst e1 e2
    exact hkeep hy (hlt hy)

theorem layW_cell {g : Nat} {a : Addr} (h : a.block ≠ g) : ∀ (l : List Value) (w : World) (o : Nat), (layW w g o l).cell? a = w.cell? a
  | [], _, _ => rfl
  | v :: l, w, o => by rw [layW, layW_cell h l]; exact World.cell?_setCell_other _ _ _ _ (fun e => h (by rw [← e]))

/-- The last element of the call's own row, laid anew. -/
theorem OwnT.last {T : TypeId} {w : World} {base : Nat} {v : Value} {l : List (Tr α)} {t0 : Tr α} (h : OwnT E T A w base v (l ++ [t0])) : ∃ g c, v = .slice (some ⟨g, 0, none⟩) (l.length + 1) c ∧ l.length + 1 ≤ c ∧ c ≤ maxLen ∧ base ≤ g ∧ g < w.heap.size ∧ (∀ r, r < E.n + 1 → ∃ u, w.cell? ⟨g, l.length * (E.n + 1) + r, none⟩ = some u) ∧ (∀ r, w.frozen? ⟨g, r, none⟩ = false) ∧
    ∀ (t : Tr α) (y : EV α), TreeP E (fun b => A b ∧ b ≠ g) w t y → OwnT E T A (layW w g (l.length * (E.n + 1)) (E.enc.cells y)) base v (l ++ [t]) := by
  obtain ⟨p, c, rfl, s1, s2⟩ := h.shape
  obtain ⟨xs, hl, ho, ht⟩ := h
  rw [List.length_append, List.length_singleton] at hl s1 ho ⊢
  obtain ⟨x0, hx⟩ : ∃ x, xs[l.length]? = some x := ⟨_, List.getElem?_eq_getElem (by omega)⟩
  obtain ⟨g, rfl, g1, g2, g3, g4, g5⟩ := OwnE.at ho hx
  refine ⟨g, c, rfl, s1, s2, g1, g2, fun r hr => ⟨_, g3 r _ (List.getElem?_eq_getElem (by rw [E.enc.len]; exact hr))⟩, g4, fun t y hy => ?_⟩
  refine ⟨xs.set l.length y, by simp; omega, g5 y w (fun _ h => h), fun i t' x' e1 e2 => ?_⟩
  have hk : ∀ {t x}, TreeP E (fun b => A b ∧ b ≠ g) w t x → TreeP E (fun b => A b ∧ (Value.slice (some ⟨g, 0, none⟩) (l.length + 1) c).ownBlock ≠ some b) (layW w g (l.length * (E.n + 1)) (E.enc.cells y)) t x := fun hp =>
    hp.keep (fun a u ha hc => by rw [layW_cell ha.2]; exact hc) (fun a u ha _ => ⟨ha.1, by simpa [Value.ownBlock] using fun e => ha.2 e.symm⟩) (fun b hb => ⟨hb.1, by simpa [Value.ownBlock] using fun e => hb.2 e.symm⟩)
  by_cases hi : i < l.length
  · rw [List.getElem?_append_left hi] at e1
    rw [List.getElem?_set_ne (by omega)] at e2
    exact hk ((ht i t' x' (by rw [List.getElem?_append_left hi]; exact e1) e2).weaken fun b hb => ⟨hb.1, fun e => hb.2 (by rw [e]; rfl)⟩)
  · obtain rfl : i = l.length := by
      have := (List.getElem?_eq_some_iff.1 e1).1
      simp at this
      omega
    rw [List.getElem?_append_right (Nat.le_refl _), Nat.sub_self] at e1
    rw [List.getElem?_set_self (by omega)] at e2
    simp at e1 e2
    subst e1 e2
    exact hk hy
end
/-- The writer behind the pointer to block 'k' of 'W' holds 'v', the call's own row of the fields 'ts'; all else of 'W' is as it was. -/
def WrAt (W : World) (k : Nat) (w : World) (v : Value) (ts : List Fd) : Prop :=
  Below W.heap.size (W.setCell ⟨k, 0, none⟩ v) w ∧ OwnT encFd 64 (fun b => W.heap.size ≤ b) w W.heap.size v ts ∧ ∃ u T, RowAt W k #[u] T
theorem WrAt.row {W w : World} {k : Nat} {v : Value} {ts : List Fd} (h : WrAt W k w v ts) : ∃ T, RowAt w k #[v] T := by
  obtain ⟨hb, _, u, T, hr⟩ := h
  refine ⟨T, (hr.set 0 v (cs' := #[v]) rfl).below hb hr.lt⟩
theorem WrAt.lt {W w : World} {k : Nat} {v : Value} {ts : List Fd} (h : WrAt W k w v ts) : k < W.heap.size ∧ W.heap.size ≤ w.heap.size := by
  obtain ⟨hb, _, u, T, hr⟩ := h
  exact ⟨hr.lt, by have := hb.size; simpa using this⟩
theorem WrAt.below {W w w' : World} {k : Nat} {v : Value} {ts : List Fd} (h : WrAt W k w v ts) (hb : Below w.heap.size w w') : WrAt W k w' v ts :=
  ⟨h.1.trans (hb.mono h.lt.2), h.2.1.below hb (Nat.le_refl _), h.2.2⟩
theorem setCell_twice (W : World) (a : Addr) (v v' : Value) : (W.setCell a v).setCell a v' = W.setCell a v' := by
  unfold World.setCell
  congr 1
  apply Array.ext
  · simp
  · intro i h1 h2
    simp only [Array.getElem_modify]
    split
    · cases hW : W.heap[i]'(by simpa using h2) with
      | cells c T fz => simp; split <;> simp
      | _ => simp
    · rfl
theorem WrAt.put {W w w1 : World} {k : Nat} {v v' : Value} {ts ts' : List Fd} (h : WrAt W k w v ts) (hb : ∀ w0, Below W.heap.size w0 w → Below W.heap.size w0 w1) (ho : OwnT encFd 64 (fun b => W.heap.size ≤ b) (w1.setCell ⟨k, 0, none⟩ v') W.heap.size v' ts') : WrAt W k (w1.setCell ⟨k, 0, none⟩ v') v' ts' := by
  obtain ⟨hb0, _, hr⟩ := h
  refine ⟨?_, ho, hr⟩
  have := below_set (hb _ hb0) ⟨k, 0, none⟩ v' (by obtain ⟨u, T, hr⟩ := hr; exact hr.lt)
  rwa [setCell_twice] at this

end Go.Proofs.Ytefmlbckbhlgdaa
namespace Go.Proofs.Ytefmlbckbhlgdaa
open Go.RowKit
set_option maxRecDepth 100000
end Go.Proofs.Ytefmlbckbhlgdaa
namespace Go.Proofs.Ytefmlbckbhlgdaa
open Go.RowKit Go.Shelf
set_option maxRecDepth 100000
section
variable {α : Type} {E : TE α} {A A' : Nat → Prop} {w : World}
theorem OwnT.inHeap {T : TypeId} {base : Nat} {v : Value} {ts : List (Tr α)} (h : OwnT E T A w base v ts) : OwnT E T (fun b => A b ∧ b < w.heap.size) w base v ts := by
  obtain ⟨xs, hl, ho, ht⟩ := h
  exact ⟨xs, hl, ho, fun i t x h1 h2 => ((ht i t x h1 h2).inHeap).weaken fun b hb => ⟨⟨hb.1.1, hb.2⟩, hb.1.2⟩⟩
theorem OwnT.weaken {T : TypeId} {base : Nat} {v : Value} {ts : List (Tr α)} (hA : ∀ b, A b → A' b) (h : OwnT E T A w base v ts) : OwnT E T A' w base v ts := by
  obtain ⟨xs, hl, ho, ht⟩ := h
  exact ⟨xs, hl, ho, fun i t x h1 h2 => (ht i t x h1 h2).weaken fun b hb => ⟨hA b hb.1, hb.2⟩⟩
/-- A cell outside of it is stored. -/
theorem OwnT.setOff {T : TypeId} {base : Nat} {v : Value} {ts : List (Tr α)} (h : OwnT E T A w base v ts) (a : Addr) (u : Value) (hg : ∀ g, v.ownBlock = some g → g ≠ a.block) (hA : ∀ b, A b → b ≠ a.block) : OwnT E T A (w.setCell a u) base v ts := by
  obtain ⟨xs, hl, ho, ht⟩ := h
  refine ⟨xs, hl, ⟨ho.1, ?_⟩, fun i t x h1 h2 => (ht i t x h1 h2).keep (fun b v hb hc => ?_) (fun _ _ h _ => h) (fun _ h => h)⟩
  · rcases ho.2 with h' | ⟨g, cap, cur, hv, hg', hc, r⟩
    · exact .inl h'
    · exact .inr ⟨g, cap, cur, hv, hg', by rw [heap_setCell_other _ _ _ _ (hg g (by rw [hv]; rfl))]; exact hc, r⟩
  · rw [World.cell?_setCell_other]
    · exact hc
    · intro e
      exact hA _ hb.1 (by rw [← e])
/-- A row of trees that is laid out in one block. -/
theorem RowT.litG {l : List (Tr α × Sl)} {g : Nat} {cs : Array Value} {T : TypeId} (hg : w.heap[g]? = some (.cells cs T (0, 0))) (hcs : cs.toList = flat E.enc (l.map fun x => (x.1.val, x.2))) (hA : A g) (hl : l.length ≤ 1000)
    (h : ∀ x ∈ l, RowT E A w (slV x.2) x.1.kids) : RowT E A w (.slice (some ⟨g, 0, none⟩) l.length l.length) (l.map (·.1)) := by
  refine ⟨l.map fun x => (x.1.val, x.2), by simp, .inr ⟨⟨g, 0, none⟩, l.length, by simp, by simp, by unfold maxLen; omega, fun j u hj => ?_⟩, fun _ ad n c e => by injection e with e _ _; injection e with e; subst e; exact hA, fun i t x e1 e2 => ?_⟩
  · rw [← hcs, Array.getElem?_toList] at hj
    have : w.cell? ⟨g, j, none⟩ = cs[j]? := cell_of_row w g j cs T _ hg
    rw [← hj, ← this]
    cases j <;> simp [Addr.add]
  · rw [List.getElem?_map, Option.map_eq_some_iff] at e1 e2
    obtain ⟨y, hy, rfl⟩ := e1
    obtain ⟨z, hz, rfl⟩ := e2
    rw [hy] at hz
    obtain rfl := Option.some.inj hz
    have h2 := h y (List.mem_of_getElem? hy)
    obtain ⟨⟨a, ks⟩, s⟩ := y
    exact RowT.node a h2
end
theorem OwnT.lowB {α : Type} {E : TE α} {A : Nat → Prop} {w w' : World} {T : TypeId} {base B : Nat} {v : Value} {ts : List (Tr α)} (h : OwnT E T A w base v ts) (hb : Below B w w') (hg : ∀ g, v.ownBlock = some g → g < B) (hA : ∀ b, A b → b < B) : OwnT E T A w' base v ts := by
  obtain ⟨xs, hl, ho, ht⟩ := h
  refine ⟨xs, hl, ⟨ho.1, ?_⟩, fun i t x h1 h2 => (ht i t x h1 h2).keep (fun b v ha hc => by rw [hb.cell (hA _ ha.1)]; exact hc) (fun _ _ h _ => h) (fun _ h => h)⟩
  rcases ho.2 with h' | ⟨g, cap, cur, hv, hg', hc, r⟩
  · exact .inl h'
  · exact .inr ⟨g, cap, cur, hv, hg', by rw [hb.block g (hg g (by rw [hv]; rfl))]; exact hc, r⟩
theorem SmT.endA {w w1 : World} {k base g c m d : Nat} {po q : Option Addr} {co : Nat} {its : List It} {tsI : List (Tr (Bool × List UInt8))} {t0 : Tr (Bool × List UInt8)} {l : Bool} {b y : List UInt8} {ks : List It} (hT : itTs its = tsI) (R : RowAt w1 k #[.slice po tsI.length co, .string (mkS y)] 95)
    (ho : OwnT encIt 98 (fun b => base ≤ b) w1 base (.slice (some ⟨g, 0, none⟩) (tsI.length + 1) c) (tsI ++ [t0])) (hkb : k < base) (hle : base ≤ w1.heap.size) (hB : Below k w w1) (hy : TreeP encIt (fun b => base ≤ b ∧ b ≠ g) w1 (itT (.mk l b ks)) ((l, b), q, m, d)) :
    SmT ((layW w1 g (tsI.length * 3) (encIt.enc.cells ((l, b), q, m, d))).setCell ⟨k, 0, none⟩ (.slice (some ⟨g, 0, none⟩) (tsI.length + 1) c)) k base (some ⟨g, 0, none⟩) c y (its ++ [.mk l b ks]) ∧ Below k w ((layW w1 g (tsI.length * 3) (encIt.enc.cells ((l, b), q, m, d))).setCell ⟨k, 0, none⟩ (.slice (some ⟨g, 0, none⟩) (tsI.length + 1) c)) := by
  obtain ⟨g', c', e, _, _, t3, _, _, _, t7⟩ := ho.last
  injection e with e _ _
  injection e with e
  injection e with e _ _
  subst e
  have hl : (its ++ [It.mk l b ks]).length = tsI.length + 1 := by rw [← hT, itTs_map]; simp
  have hts : itTs (its ++ [It.mk l b ks]) = tsI ++ [itT (.mk l b ks)] := by rw [← hT, itTs_map, itTs_map]; simp
  have hkg : k ≠ g := by omega
  have hbel := ((layW_below (encIt.enc.cells ((l, b), q, m, d)) w1 w g (tsI.length * 3) k hB (by omega)).setCell (p := ⟨k, 0, none⟩) (Nat.le_refl k) (.slice (some ⟨g, 0, none⟩) (tsI.length + 1) c))
  refine ⟨⟨?_, ?_, hkb, ?_⟩, hbel⟩
  · rw [hl]
    exact (((R.other ⟨g, tsI.length * 3, none⟩ _ hkg).other ⟨g, tsI.length * 3 + 1, none⟩ _ hkg).other ⟨g, tsI.length * 3 + 1 + 1, none⟩ _ hkg).set 0 _ rfl
  · rw [hl, hts]
    exact (t7 _ _ hy).setLow ⟨k, 0, none⟩ _ hkb (fun b hb e => by simp only at e; omega)
  · have := (layW_below (encIt.enc.cells ((l, b), q, m, d)) w1 w1 g (tsI.length * 3) 0 (Below.refl _ _) (Nat.zero_le _)).setCell (p := ⟨k, 0, none⟩) (Nat.zero_le _) (.slice (some ⟨g, 0, none⟩) (tsI.length + 1) c)
    exact Nat.le_trans hle this.size
theorem SmT.endB {w w1 : World} {k base g c m d : Nat} {po q : Option Addr} {co : Nat} {its : List It} {tsI : List (Tr (Bool × List UInt8))} {t0 : Tr (Bool × List UInt8)} {l : Bool} {b y : List UInt8} {ks : List It} (hT : itTs its = tsI) (R : RowAt w1 k #[.slice po tsI.length co, .string (mkS y)] 95)
    (ho : OwnT encIt 98 (fun b => base ≤ b) w1 base (.slice (some ⟨g, 0, none⟩) (tsI.length + 1) c) (tsI ++ [t0])) (hkb : k < base) (hle : base ≤ w1.heap.size) (hB : Below k w w1) (hy : TreeP encIt (fun b => base ≤ b ∧ b ≠ g) w1 (itT (.mk l b ks)) ((l, b), q, m, d)) :
    SmT (layW (w1.setCell ⟨k, 0, none⟩ (.slice (some ⟨g, 0, none⟩) (tsI.length + 1) c)) g (tsI.length * 3) (encIt.enc.cells ((l, b), q, m, d))) k base (some ⟨g, 0, none⟩) c y (its ++ [.mk l b ks]) ∧ Below k w (layW (w1.setCell ⟨k, 0, none⟩ (.slice (some ⟨g, 0, none⟩) (tsI.length + 1) c)) g (tsI.length * 3) (encIt.enc.cells ((l, b), q, m, d))) := by
  have ho2 := ho.setLow ⟨k, 0, none⟩ (.slice (some ⟨g, 0, none⟩) (tsI.length + 1) c) hkb (fun b hb e => by simp only at e; omega)
  obtain ⟨g', c', e, _, _, t3, _, _, _, t7⟩ := ho2.last
  injection e with e _ _
  injection e with e
  injection e with e _ _
  subst e
  have hl : (its ++ [It.mk l b ks]).length = tsI.length + 1 := by rw [← hT, itTs_map]; simp
  have hts : itTs (its ++ [It.mk l b ks]) = tsI ++ [itT (.mk l b ks)] := by rw [← hT, itTs_map, itTs_map]; simp
  have hkg : k ≠ g := by omega
  have hbel := layW_below (encIt.enc.cells ((l, b), q, m, d)) _ w g (tsI.length * 3) k (hB.setCell (p := ⟨k, 0, none⟩) (Nat.le_refl k) (.slice (some ⟨g, 0, none⟩) (tsI.length + 1) c)) (by omega)
  refine ⟨⟨?_, ?_, hkb, ?_⟩, hbel⟩
  · rw [hl]
    have R2 := R.set 0 (.slice (some ⟨g, 0, none⟩) (tsI.length + 1) c) (cs' := #[.slice (some ⟨g, 0, none⟩) (tsI.length + 1) c, .string (mkS y)]) rfl
    exact ((R2.other ⟨g, tsI.length * 3, none⟩ _ hkg).other ⟨g, tsI.length * 3 + 1, none⟩ _ hkg).other ⟨g, tsI.length * 3 + 1 + 1, none⟩ _ hkg
  · rw [hl, hts]
    refine t7 _ _ (hy.keep (fun a u ha hc => ?_) (fun _ _ h _ => h) (fun _ h => h))
    rw [World.cell?_setCell_other]
    · exact hc
    · intro e; subst e; have := ha.1; simp only at this; omega
  · have := layW_below (encIt.enc.cells ((l, b), q, m, d)) _ w1 g (tsI.length * 3) 0 ((Below.refl 0 w1).setCell (p := ⟨k, 0, none⟩) (Nat.zero_le _) (.slice (some ⟨g, 0, none⟩) (tsI.length + 1) c)) (Nat.zero_le _)
    exact Nat.le_trans hle this.size

theorem SmT.endA2 {w w1 : World} {k base g c m d : Nat} {po q : Option Addr} {co : Nat} {its : List It} {tsI : List (Tr (Bool × List UInt8))} {t0 : Tr (Bool × List UInt8)} {l : Bool} {b y : List UInt8} {ks : List It} (hT : itTs its = tsI) (R : RowAt w1 k #[.slice po tsI.length co, .string (mkS y)] 95)
    (ho : OwnT encIt 98 (fun b => base ≤ b) w1 base (.slice (some ⟨g, 0, none⟩) (tsI.length + 1) c) (tsI ++ [t0])) (hkb : k < base) (hle : base ≤ w1.heap.size) (hB : Below k w w1) (hy : TreeP encIt (fun b => base ≤ b ∧ b ≠ g) w1 (itT (.mk l b ks)) ((l, b), q, m, d)) :
    SmT ((((w1.setCell ⟨g, tsI.length * 3, none⟩ (.bool l)).setCell ⟨g, tsI.length * 3 + 1, none⟩ (.string (mkS b))).setCell ⟨g, tsI.length * 3 + 2, none⟩ (.slice q m d)).setCell ⟨k, 0, none⟩ (.slice (some ⟨g, 0, none⟩) (tsI.length + 1) c)) k base (some ⟨g, 0, none⟩) c y (its ++ [.mk l b ks]) ∧ Below k w ((((w1.setCell ⟨g, tsI.length * 3, none⟩ (.bool l)).setCell ⟨g, tsI.length * 3 + 1, none⟩ (.string (mkS b))).setCell ⟨g, tsI.length * 3 + 2, none⟩ (.slice q m d)).setCell ⟨k, 0, none⟩ (.slice (some ⟨g, 0, none⟩) (tsI.length + 1) c)) := SmT.endA hT R ho hkb hle hB hy
theorem SmT.endB2 {w w1 : World} {k base g c m d : Nat} {po q : Option Addr} {co : Nat} {its : List It} {tsI : List (Tr (Bool × List UInt8))} {t0 : Tr (Bool × List UInt8)} {l : Bool} {b y : List UInt8} {ks : List It} (hT : itTs its = tsI) (R : RowAt w1 k #[.slice po tsI.length co, .string (mkS y)] 95)
    (ho : OwnT encIt 98 (fun b => base ≤ b) w1 base (.slice (some ⟨g, 0, none⟩) (tsI.length + 1) c) (tsI ++ [t0])) (hkb : k < base) (hle : base ≤ w1.heap.size) (hB : Below k w w1) (hy : TreeP encIt (fun b => base ≤ b ∧ b ≠ g) w1 (itT (.mk l b ks)) ((l, b), q, m, d)) :
    SmT ((((w1.setCell ⟨k, 0, none⟩ (.slice (some ⟨g, 0, none⟩) (tsI.length + 1) c)).setCell ⟨g, tsI.length * 3, none⟩ (.bool l)).setCell ⟨g, tsI.length * 3 + 1, none⟩ (.string (mkS b))).setCell ⟨g, tsI.length * 3 + 2, none⟩ (.slice q m d)) k base (some ⟨g, 0, none⟩) c y (its ++ [.mk l b ks]) ∧ Below k w ((((w1.setCell ⟨k, 0, none⟩ (.slice (some ⟨g, 0, none⟩) (tsI.length + 1) c)).setCell ⟨g, tsI.length * 3, none⟩ (.bool l)).setCell ⟨g, tsI.length * 3 + 1, none⟩ (.string (mkS b))).setCell ⟨g, tsI.length * 3 + 2, none⟩ (.slice q m d)) := SmT.endB hT R ho hkb hle hB hy

/-- A node's sum is told of. -/
def AddAns (its : List It) (nd : Nd) (k base : Nat) (w : World) (e : Ending) (w' : World) : Prop :=
  ∃ po co, e = .returned (.tuple #[]) ∧ SmT w' k base po co (itN its nd).write (its ++ [referI (itN its nd)]) ∧ Below k w w'

set_option maxHeartbeats 8000000 in
theorem sadd_any (nd : Nd) (its : List It) (hN : NdG its.length nd its) (hl : its.length ≤ 600000) (k base : Nat) (po : Option Addr) (co : Nat) (last : List UInt8) (w : World) (S : SmT w k base po co last its) :
    Calls Try.prog 46 #[.pointer (some ⟨k, 0, none⟩), .agg (ndc nd)] w (AddAns its nd k base w) := by
  have HG0 := Lib.hid S.own.lt
  have SR := Lib.hid S.row
  have SO := Lib.hid S.own.inHeap
  have HKB := Lib.hid S.lt
  have HBW := Lib.hid S.le
  have HND := Lib.hid hN
  obtain ⟨bk, hbk⟩ : ∃ b, b = decide (nd.kind = 1) := ⟨_, rfl⟩
  have KP := Lib.hid (fun W => pack_yes (mkS nd.part) bk W (by rw [mk_size]; have := hN.part; omega) hN.half)
  rw [packB_mk] at KP
  have hb1 : (nd.kind == 1) = bk := hbk.symm
  have HBK := Lib.hid hbk
  generalize hpk : packL nd.part bk = pk at *
  have HPK := Lib.hid hpk
  generalize hln : its.length = ln at *
  have HLN := Lib.hid hln
  have R3 := Lib.hid (RowAt.new w (ndc nd) 88)
  have HB := Lib.hid ((Below.refl w.heap.size w).alloc (Nat.le_refl _) (.cells (ndc nd) 88))
  (replace SR := Lib.hid (SR.out.alloc (.cells (ndc nd) 88)); replace SO := Lib.hid (SO.out.below ((Below.refl (w).heap.size (w)).alloc (Nat.le_refl _) (.cells (ndc nd) 88)) (Nat.le_refl _)))
  clear S hN hpk hln hbk
  go_enter Try.func46, Try.ntmps46
  go_upto_region 1 with (fail)
  generalize w.alloc (.cells (ndc nd) 88) = w1 at *
  obtain ⟨c0, c1, c2, -⟩ := R3.out.nd
  go_upto_region 2 with (go_at_call 86; (with_reducible refine (KP.out _).mono ?_); rintro e w2 ⟨rfl, hb⟩; (replace R3 := Lib.hid (R3.out.belowS hb); replace SR := Lib.hid (SR.out.belowS hb); replace SO := Lib.hid (SO.out.below hb (Nat.le_refl _)); replace HB := Lib.hid (HB.out.trans (hb.mono HB.out.size)); clear hb); clear KP c0 c1 c2; obtain ⟨c0, c1, c2, -⟩ := R3.out.nd)
  have RG := Lib.hid (RowAt.new w2 #[.bool false, .string (mkS pk), .slice none 0 0, .bool false, .string (mkS nd.value), .slice none 0 0] 98)
  have HG1 : Hid (w.heap.size < w2.heap.size) := Lib.hid R3.out.lt
  (replace R3 := Lib.hid (R3.out.alloc (.cells #[.bool false, .string (mkS pk), .slice none 0 0, .bool false, .string (mkS nd.value), .slice none 0 0] 98)); replace SR := Lib.hid (SR.out.alloc (.cells #[.bool false, .string (mkS pk), .slice none 0 0, .bool false, .string (mkS nd.value), .slice none 0 0] 98)); replace SO := Lib.hid (SO.out.below ((Below.refl (w2).heap.size (w2)).alloc (Nat.le_refl _) (.cells #[.bool false, .string (mkS pk), .slice none 0 0, .bool false, .string (mkS nd.value), .slice none 0 0] 98)) (Nat.le_refl _)); replace HB := Lib.hid (HB.out.alloc HB.out.size (.cells #[.bool false, .string (mkS pk), .slice none 0 0, .bool false, .string (mkS nd.value), .slice none 0 0] 98)))
  go_upto_region 3 with (go_at_call 87; (with_reducible refine (rlistP_any _ _ _ _).mono ?_); rintro e w4 ⟨rfl, hb⟩; (replace RG := Lib.hid (RG.out.belowS hb); replace R3 := Lib.hid (R3.out.belowS hb); replace SR := Lib.hid (SR.out.belowS hb); replace SO := Lib.hid (SO.out.below hb (Nat.le_refl _)); replace HB := Lib.hid (HB.out.trans (hb.mono HB.out.size)); clear hb); have R6 := Lib.hid (RowAt.new w4 #[.bool true, .string ⟨#[]⟩, .slice (some ⟨w2.heap.size, 0, none⟩) 2 2] 98); have HG2 : Hid (w2.heap.size < w4.heap.size) := Lib.hid RG.out.lt; (replace RG := Lib.hid (RG.out.alloc (.cells #[.bool true, .string ⟨#[]⟩, .slice (some ⟨w2.heap.size, 0, none⟩) 2 2] 98)); replace R3 := Lib.hid (R3.out.alloc (.cells #[.bool true, .string ⟨#[]⟩, .slice (some ⟨w2.heap.size, 0, none⟩) 2 2] 98)); replace SR := Lib.hid (SR.out.alloc (.cells #[.bool true, .string ⟨#[]⟩, .slice (some ⟨w2.heap.size, 0, none⟩) 2 2] 98)); replace SO := Lib.hid (SO.out.below ((Below.refl (w4).heap.size (w4)).alloc (Nat.le_refl _) (.cells #[.bool true, .string ⟨#[]⟩, .slice (some ⟨w2.heap.size, 0, none⟩) 2 2] 98)) (Nat.le_refl _)); replace HB := Lib.hid (HB.out.alloc HB.out.size (.cells #[.bool true, .string ⟨#[]⟩, .slice (some ⟨w2.heap.size, 0, none⟩) 2 2] 98))))
  generalize w4.alloc (.cells #[.bool true, .string ⟨#[]⟩, .slice (some ⟨w2.heap.size, 0, none⟩) 2 2] 98) = w5 at *
  generalize w4.heap.size = k6 at *
  generalize w2.heap.size = kg at *
  clear c0 c1 c2
  obtain ⟨c0, -, -, -⟩ := R3.out.nd
  have HG3 : Hid (k6 < w5.heap.size) := Lib.hid R6.out.lt
  go_upto_block 0 with (fail)
  go_cut [6] (fun t wr => ∃ (p : Option Addr) (n c : Nat) (ks : List It), t = .pointer (some ⟨k6, 0, none⟩) ∧ Hid (itN its nd = .mk true [] ks) ∧ Hid (RowAt wr k6 #[.bool true, .string ⟨#[]⟩, .slice p n c] 98) ∧ Hid (RowT encIt (fun b => base ≤ b ∧ (Value.slice po ln co).ownBlock ≠ some b ∧ b ≠ k6) wr (.slice p n c) (itTs ks)) ∧
    Hid (RowAt wr k #[.slice po ln co, .string (mkS last)] 95) ∧ Hid (OwnT encIt 98 (fun b => base ≤ b ∧ b < w.heap.size) wr base (.slice po ln co) (itTs its)) ∧ Hid (Below w.heap.size w wr))
  case first =>
    have HNG : Hid (∀ b, b < w.heap.size → b ≠ kg ∧ b ≠ k6) := Lib.hid (fun b hb => by have := HG1.out; have := HG2.out; omega)
    rcases HND.out.kind with hk | hk | hk
    · have q2 : (nd.kind == 2) = false := by rw [hk]; rfl
      have q3 : (nd.kind == 3) = false := by rw [hk]; rfl
      replace hk := Lib.hid hk
      go_wp2
      go_meet
      case rel =>
        refine ⟨some ⟨kg, 0, none⟩, 2, 2, [strI pk, strI nd.value], rfl, Lib.hid (by have := hk.out; unfold itN; rw [if_neg (by omega), if_neg (by omega), ← HBK.out, HPK.out]), R6, Lib.hid ?_, SR, SO, HB⟩
        exact RowT.litG (E := encIt) (l := [(itT (strI pk), (none, 0, 0)), (itT (strI nd.value), (none, 0, 0))]) RG.out rfl ⟨by have := HBW.out; have := HG1.out; omega, fun e => by have := (HG0.out kg e).2; have := HG1.out; omega, by have := HG2.out; omega⟩ (by simp) (fun x hx => by
          simp only [List.mem_cons, List.mem_nil_iff, or_false] at hx
          rcases hx with rfl | rfl <;> exact RowT.nil)
    · have q2 : (nd.kind == 2) = true := by rw [hk]; rfl
      have ck := (R3.out.ndK 0 (by decide)).1
      replace ck : w5.cell? ⟨w.heap.size, 3, none⟩ = some (.int .i64 (nd.kids.getD 0 0)) := ck
      have hlow := HND.out.low (nd.kids.getD 0 0) (by have := HND.out.kids; rw [List.getD_eq_getElem?_getD, List.getElem?_eq_getElem (by omega)]; exact List.getElem_mem _)
      have HIT0 : Hid (itN its nd = .mk true [] [strI pk, toldI its (nd.kids.getD 0 0)]) := Lib.hid (by unfold itN; rw [if_pos hk, ← HPK.out, HBK.out, decide_eq_false (by omega)])
      replace hk := Lib.hid hk
      generalize nd.kids.getD 0 0 = k0 at *
      have KT : Hid (Calls Try.prog 88 #[.pointer (some ⟨k, 0, none⟩), .int .i64 k0] w5.drew fun e w' => ∃ u, e = .returned u ∧ ItC (fun b => (base ≤ b ∧ b < w.heap.size) ∧ (Value.slice po ln co).ownBlock ≠ some b) w' u (toldI its k0) ∧ Below w5.drew.heap.size w5.drew w') := Lib.hid (by
        have h1 := SR.out.drew
        have h2 := SO.out.below (Below.refl w5.heap.size w5).drew (Nat.le_refl _)
        have h3 := HLN.out
        subst h3
        exact stold_any its k0 hlow k base po co (.string (mkS last)) w5.drew h1 h2)
      generalize toldI its k0 = T at *
      clear hlow
      go_upto_region 6 with (fail)
      have e2 : ∀ u : InC (LaterC w5.drew), u.w.cell? ⟨k6, 2, none⟩ = some (.slice (some ⟨kg, 0, none⟩) 2 2) := fun u => (R6.out.drew.inC u).cell 2
      have e3 : ∀ u : InC (LaterC w5.drew), u.w.cell? ⟨w.heap.size, 3, none⟩ = some (.int .i64 k0) := InC.cell (W := w5.drew) ck
      (refine region_items [(false, 0), (false, 1), (false, 2), (false, 3), (false, 4), (false, 5), (true, 6), (false, 7)] 8 (LaterC w5.drew) mix ?hB ?hC ?_; case hB => kernel_rfl); (case hC => (exact Below.refl _ _)); ((with_reducible refine xi_read ?_); (refine ⟨_, rfl, ?_⟩); intro K hK; go_simp; (with_reducible refine hK _ ?_); clear hK K); ((with_reducible refine xi_read ?_); (refine ⟨_, rfl, ?_⟩); intro K hK; go_simp; (with_reducible refine hK _ ?_); clear hK K); ((with_reducible refine xi_read ?_); (refine ⟨_, rfl, ?_⟩); intro K hK; go_simp; (with_reducible refine hK _ ?_); clear hK K); ((with_reducible refine xi_read ?_); (refine ⟨_, rfl, ?_⟩); intro K hK; go_simp; (with_reducible refine hK _ ?_); clear hK K); ((with_reducible refine xi_read ?_); (refine ⟨_, rfl, ?_⟩); intro K hK; go_simp; (with_reducible refine hK _ ?_); clear hK K); ((with_reducible refine xi_read ?_); (refine ⟨_, rfl, ?_⟩); intro K hK; go_simp; (with_reducible refine hK _ ?_); clear hK K); ((with_reducible refine xi_eff ?_); (refine ⟨_, rfl, ?_⟩); intro K hK; unfold EX; go_simp; (go_at_call 88; (with_reducible refine KT.out.mono ?_); rintro e w6 ⟨u6, rfl, ⟨lb, b, q, n, c2, ks, rfl, hx, hrow⟩, hb6⟩; refine ⟨_, rfl, hb6, hK _ _ ?_⟩; clear hK K)); ((with_reducible refine xi_read ?_); (refine ⟨_, rfl, ?_⟩); intro K hK; go_simp; (with_reducible refine hK _ ?_); clear hK K); (with_reducible refine xi_nil ?_); (simp only [List.drop_succ_cons, List.drop_zero])
      clear e2 e3 ck KT
      subst hx
      have HBD := (Below.refl w5.heap.size w5).drew
      have hb := HBD.trans (hb6.mono HBD.size)
      have HRW := Lib.hid hrow
      (replace RG := Lib.hid (RG.out.belowS hb); replace R6 := Lib.hid (R6.out.belowS hb); replace SR := Lib.hid (SR.out.belowS hb); replace SO := Lib.hid (SO.out.below hb (Nat.le_refl _)); replace HB := Lib.hid (HB.out.trans (hb.mono HB.out.size)); clear hb)
      clear hb6 HBD hrow
      have g3 : w6.cell? ⟨kg, 3, none⟩ = some (.bool false) := RG.out.cell 3
      have g4 : w6.cell? ⟨kg, 4, none⟩ = some (.string (mkS nd.value)) := RG.out.cell 4
      have g5 : w6.cell? ⟨kg, 5, none⟩ = some (.slice none 0 0) := RG.out.cell 5
      have gf3 := RG.out.frozen 3
      have gf4 := RG.out.frozen 4
      have gf5 := RG.out.frozen 5
      replace RG := Lib.hid (((RG.out.set 3 (.bool lb) rfl).set 4 (.string (mkS b)) rfl).set 5 (.slice q n c2) (cs' := #[.bool false, .string (mkS pk), .slice none 0 0, .bool lb, .string (mkS b), .slice q n c2]) rfl)
      have n6 : k6 ≠ kg := by have := HG2.out; omega
      have nk : k ≠ kg := by have := HKB.out; have := HBW.out; have := HG1.out; omega
      have no : ∀ g, (Value.slice po ln co).ownBlock = some g → g ≠ kg := fun g hg => (HNG.out g (HG0.out g hg).2).1
      have nA : ∀ b, (base ≤ b ∧ b < w.heap.size) → b ≠ kg := fun b hb => (HNG.out b hb.2).1
      have nB : w.heap.size ≤ kg := by have := HG1.out; omega
      replace R6 := Lib.hid (((R6.out.other ⟨kg, 3, none⟩ (.bool lb) n6).other ⟨kg, 4, none⟩ (.string (mkS b)) n6).other ⟨kg, 5, none⟩ (.slice q n c2) n6)
      replace SR := Lib.hid (((SR.out.other ⟨kg, 3, none⟩ (.bool lb) nk).other ⟨kg, 4, none⟩ (.string (mkS b)) nk).other ⟨kg, 5, none⟩ (.slice q n c2) nk)
      replace SO := Lib.hid (((SO.out.setOff ⟨kg, 3, none⟩ (.bool lb) no nA).setOff ⟨kg, 4, none⟩ (.string (mkS b)) no nA).setOff ⟨kg, 5, none⟩ (.slice q n c2) no nA)
      replace HB := Lib.hid (((HB.out.setCell (p := ⟨kg, 3, none⟩) nB (.bool lb)).setCell (p := ⟨kg, 4, none⟩) nB (.string (mkS b))).setCell (p := ⟨kg, 5, none⟩) nB (.slice q n c2))
      replace HRW := Lib.hid (show RowT encIt (fun b => base ≤ b ∧ (Value.slice po ln co).ownBlock ≠ some b ∧ b ≠ k6) (((w6.setCell ⟨kg, 3, none⟩ (.bool lb)).setCell ⟨kg, 4, none⟩ (.string (mkS b))).setCell ⟨kg, 5, none⟩ (.slice q n c2)) (.slice q n c2) (itTs ks) from HRW.out.keep (fun a v ha hc => by
        rw [World.cell?_setCell_other, World.cell?_setCell_other, World.cell?_setCell_other]; exact hc
        all_goals (intro e; subst e; exact (HNG.out _ ha.1.2).1 rfl)) (fun b hb => ⟨hb.1.1, hb.2, (HNG.out _ hb.1.2).2⟩))
      clear n6 nk no nA nB
      go_wp2
      go_meet
      case rel =>
        refine ⟨some ⟨kg, 0, none⟩, 2, 2, [strI pk, .mk lb b ks], rfl, HIT0, R6, Lib.hid ?_, SR, SO, HB⟩
        exact RowT.litG (E := encIt) (l := [(itT (strI pk), (none, 0, 0)), (itT (.mk lb b ks), (q, n, c2))]) RG.out rfl ⟨by have := HBW.out; have := HG1.out; omega, fun e => by have := (HG0.out kg e).2; have := HG1.out; omega, by have := HG2.out; omega⟩ (by simp) (fun x hx => by
          simp only [List.mem_cons, List.mem_nil_iff, or_false] at hx
          rcases hx with rfl | rfl
          · exact RowT.nil
          · exact HRW.out)
    · have q2 : (nd.kind == 2) = false := by rw [hk]; rfl
      have q3 : (nd.kind == 3) = true := by rw [hk]; rfl
      have hkl := HND.out.kids
      have HLW : Hid (∀ i, i < 16 → nd.kids.getD i 0 = -1 ∨ (0 ≤ nd.kids.getD i 0 ∧ nd.kids.getD i 0 < ln)) := Lib.hid (fun i hi => HND.out.low _ (by rw [List.getD_eq_getElem?_getD, List.getElem?_eq_getElem (by omega)]; exact List.getElem_mem _))
      obtain ⟨xs, hxs⟩ : ∃ xs, nd.kids.map (toldI its) = xs := ⟨_, rfl⟩
      have HXL : Hid (xs.length = 16) := Lib.hid (by rw [← hxs, List.length_map]; exact hkl)
      have HXG : Hid (∀ i, i < 16 → xs[i]? = some (toldI its (nd.kids.getD i 0))) := Lib.hid (fun i hi => by rw [← hxs, List.getElem?_map, List.getElem?_eq_getElem (show i < nd.kids.length by omega), List.getD_eq_getElem?_getD, List.getElem?_eq_getElem (show i < nd.kids.length by omega)]; rfl)
      have HITB : Hid (itN its nd = .mk true [] (xs ++ [strI nd.value])) := Lib.hid (by unfold itN; rw [if_neg (by omega), if_pos (by omega), hxs])
      have HKA : Hid (∀ i, i < 16 → (kdc nd)[i]? = some (.int .i64 (nd.kids.getD i 0))) := Lib.hid (fun i hi => kdc_at nd i hi)
      have HO6 : Hid (∀ g, (Value.slice po ln co).ownBlock = some g → g ≠ k6) := Lib.hid (fun g hg => (HNG.out g (HG0.out g hg).2).2)
      have H36 : Hid (w.heap.size ≠ k6) := Lib.hid (by have := HG1.out; have := HG2.out; omega)
      have HK6 : Hid (k ≠ k6) := Lib.hid (by have := HKB.out; have := HBW.out; have := HG1.out; have := HG2.out; omega)
      replace hk := Lib.hid hk
      clear hkl hxs c0
      obtain ⟨x0, x1, x2, xf0, xf1, xf2⟩ := R6.out.c3
      go_upto_region 9 with (go_at_call 87; (with_reducible refine (rlistP_any _ _ _ _).mono ?_); rintro e w6 ⟨rfl, hb⟩; (replace R3 := Lib.hid (R3.out.belowS hb); replace R6 := Lib.hid (R6.out.belowS hb); replace SR := Lib.hid (SR.out.belowS hb); replace SO := Lib.hid (SO.out.below hb (Nat.le_refl _)); replace HB := Lib.hid (HB.out.trans (hb.mono HB.out.size)); clear hb); clear x0 x1 x2 xf0 xf1 xf2; obtain ⟨x0, x1, x2, xf0, xf1, xf2⟩ := R6.out.c3)
      replace R6 := Lib.hid (((R6.out.set 0 (.bool true) rfl).set 1 (.string ⟨#[]⟩) rfl).set 2 (.slice none 0 0) (cs' := #[.bool true, .string ⟨#[]⟩, .slice none 0 0]) rfl)
      replace R3 := Lib.hid (((R3.out.other ⟨k6, 0, none⟩ (.bool true) H36.out).other ⟨k6, 1, none⟩ (.string ⟨#[]⟩) H36.out).other ⟨k6, 2, none⟩ (.slice none 0 0) H36.out)
      replace SR := Lib.hid (((SR.out.other ⟨k6, 0, none⟩ (.bool true) HK6.out).other ⟨k6, 1, none⟩ (.string ⟨#[]⟩) HK6.out).other ⟨k6, 2, none⟩ (.slice none 0 0) HK6.out)
      replace SO := Lib.hid (((SO.out.setOff ⟨k6, 0, none⟩ (.bool true) HO6.out (fun b hb => (HNG.out b hb.2).2)).setOff ⟨k6, 1, none⟩ (.string ⟨#[]⟩) HO6.out (fun b hb => (HNG.out b hb.2).2)).setOff ⟨k6, 2, none⟩ (.slice none 0 0) HO6.out (fun b hb => (HNG.out b hb.2).2))
      have nB : w.heap.size ≤ k6 := by have := HG1.out; have := HG2.out; omega
      replace HB := Lib.hid (((HB.out.setCell (p := ⟨k6, 0, none⟩) nB (.bool true)).setCell (p := ⟨k6, 1, none⟩) nB (.string ⟨#[]⟩)).setCell (p := ⟨k6, 2, none⟩) nB (.slice none 0 0))
      clear x0 x1 x2 xf0 xf1 xf2 nB RG
      generalize ((w6.setCell ⟨k6, 0, none⟩ (.bool true)).setCell ⟨k6, 1, none⟩ (.string ⟨#[]⟩)).setCell ⟨k6, 2, none⟩ (.slice none 0 0) = w7 at *
      have O0 : Hid (OwnT encIt 98 (fun b => base ≤ b ∧ b < w.heap.size ∧ (Value.slice po ln co).ownBlock ≠ some b) w7 (k6 + 1) (.slice none 0 0) (itTs (xs.take 0))) := Lib.hid (OwnT.nil _ _)
      go_upto_region 10 with (refine wpList_load_kids rfl _ rfl w.heap.size nd rfl R3.out ?_)
      go_loopw [45] (fun s45 wr => ∃ (i : Nat) (qo : Option Addr) (dc : Nat), i ≤ 16 ∧ s45 = .int .i64 i ∧ Hid (RowAt wr k6 #[.bool true, .string ⟨#[]⟩, .slice qo i dc] 98) ∧ Hid (OwnT encIt 98 (fun b => base ≤ b ∧ b < w.heap.size ∧ (Value.slice po ln co).ownBlock ≠ some b) wr (k6 + 1) (.slice qo i dc) (itTs (xs.take i))) ∧ Hid (RowAt wr w.heap.size (ndc nd) 88) ∧ Hid (RowAt wr k #[.slice po ln co, .string (mkS last)] 95) ∧ Hid (OwnT encIt 98 (fun b => base ≤ b ∧ b < w.heap.size) wr base (.slice po ln co) (itTs its)) ∧ Hid (Below w.heap.size w wr)) (fun s _ => 16 - (intOf s).toNat)
      case atStart => exact ⟨0, none, 0, Nat.zero_le _, rfl, R6, O0, R3, SR, SO, HB⟩
      clear R6 O0 R3 SR SO HB
      obtain ⟨i, qo, dc, hi, rfl, h6, ho, h3, hs, hso, hb⟩ := hrel
      have R6 := Lib.hid h6.out
      have O := Lib.hid ho.out
      have R3 := Lib.hid h3.out
      have SR := Lib.hid hs.out
      have SO := Lib.hid hso.out
      have HB := Lib.hid hb.out
      clear h6 ho h3 hs hso hb
      by_cases hlt : i < 16
      · have hlow := HLW.out i hlt
        have hka := HKA.out i hlt
        have HX := Lib.hid (HXG.out i hlt)
        generalize nd.kids.getD i 0 = k0 at *
        have hix := index_kids hlt hka
        have KT : Hid (Calls Try.prog 88 #[.pointer (some ⟨k, 0, none⟩), .int .i64 k0] wr.drew fun e w' => ∃ u, e = .returned u ∧ ItC (fun b => (base ≤ b ∧ b < w.heap.size) ∧ (Value.slice po ln co).ownBlock ≠ some b) w' u (toldI its k0) ∧ Below wr.drew.heap.size wr.drew w') := Lib.hid (by
          have h1 := SR.out.drew
          have h2 := SO.out.below (Below.refl wr.heap.size wr).drew (Nat.le_refl _)
          have h3 := HLN.out
          subst h3
          exact stold_any its k0 hlow k base po co (.string (mkS last)) wr.drew h1 h2)
        generalize toldI its k0 = T at *
        clear hlow hka
        go_upto_region 12 with (fail)
        have e2 : ∀ u : InC (LaterC wr.drew), u.w.cell? ⟨k6, 2, none⟩ = some (.slice qo i dc) := fun u => (R6.out.drew.inC u).cell 2
        (refine region_items [(false, 0), (false, 1), (false, 2), (false, 3), (true, 4), (true, 5)] 6 (LaterC wr.drew) mix ?hB ?hC ?_; case hB => kernel_rfl); (case hC => (exact Below.refl _ _)); ((with_reducible refine xi_read ?_); (refine ⟨_, rfl, ?_⟩); intro K hK; go_simp; (with_reducible refine hK _ ?_); clear hK K); ((with_reducible refine xi_read ?_); (refine ⟨_, rfl, ?_⟩); intro K hK; go_simp; (with_reducible refine hK _ ?_); clear hK K); ((with_reducible refine xi_read ?_); (refine ⟨_, rfl, ?_⟩); intro K hK; go_simp; (with_reducible refine hK _ ?_); clear hK K); ((with_reducible refine xi_read ?_); (refine ⟨_, rfl, ?_⟩); intro K hK; go_simp; (with_reducible refine hK _ ?_); clear hK K); ((with_reducible refine xi_eff ?_); (refine ⟨_, rfl, ?_⟩); intro K hK; unfold EX; go_simp; (go_at_call 88; (with_reducible refine KT.out.mono ?_); rintro e w6 ⟨u6, rfl, ⟨lb, b, q, n, c2, ks, rfl, hx, hrow⟩, hb6⟩; refine ⟨_, rfl, hb6, hK _ _ ?_⟩; clear hK K)); ((with_reducible refine xi_eff ?_); (refine ⟨_, rfl, ?_⟩); intro K hK; unfold EX; go_simp; (refine ⟨?hC, hK _ _ ?_⟩; (case hC => exact Below.alloc hb6 hb6.size _); clear hK K)); (with_reducible refine xi_nil ?_); (simp only [List.drop_succ_cons, List.drop_zero])
        have HBD := (Below.refl wr.heap.size wr).drew
        have hb := HBD.trans (hb6.mono HBD.size)
        have HY := Lib.hid (((RowT.node (lb, b) (s := (q, n, c2)) hrow).weaken (A' := fun b' => (base ≤ b' ∧ b' < w.heap.size ∧ (Value.slice po ln co).ownBlock ≠ some b') ∧ (Value.slice qo i dc).ownBlock ≠ some b') (fun b' hb' => ⟨⟨hb'.1.1, hb'.1.2, hb'.2⟩, fun e => by have := (O.out.lt b' e).1; have := hb'.1.2; have := HG1.out; have := HG2.out; omega⟩)).move (bel1 w6 (.cells #[.bool lb, .string (mkS b), .slice q n c2] 98)) (Nat.le_refl _))
        clear hrow hb6 HBD e2 KT hix
        subst hx
        have HTK : Hid (itTs (xs.take i) ++ [itT (.mk lb b ks)] = itTs (xs.take (i + 1))) := Lib.hid (by rw [List.take_add_one, HX.out, itTs_map, itTs_map]; simp)
        have HTL : Hid ((itTs (xs.take i)).length = i) := Lib.hid (by rw [itTs_map]; simp; have := HXL.out; omega)
        (replace R6 := Lib.hid (R6.out.belowS hb); replace R3 := Lib.hid (R3.out.belowS hb); replace SR := Lib.hid (SR.out.belowS hb); replace O := Lib.hid (O.out.below hb (Nat.le_refl _)); replace SO := Lib.hid (SO.out.below hb (Nat.le_refl _)); replace HB := Lib.hid (HB.out.trans (hb.mono HB.out.size)); clear hb)
        have R11 := Lib.hid (RowAt.new w6 #[.bool lb, .string (mkS b), .slice q n c2] 98)
        have HSZ : Hid (k6 + 1 ≤ (w6.alloc (.cells #[.bool lb, .string (mkS b), .slice q n c2] 98)).heap.size) := Lib.hid (by have := R6.out.lt; simp; omega)
        (replace R6 := Lib.hid (R6.out.alloc (.cells #[.bool lb, .string (mkS b), .slice q n c2] 98)); replace R3 := Lib.hid (R3.out.alloc (.cells #[.bool lb, .string (mkS b), .slice q n c2] 98)); replace SR := Lib.hid (SR.out.alloc (.cells #[.bool lb, .string (mkS b), .slice q n c2] 98)); replace O := Lib.hid (O.out.below ((Below.refl (w6).heap.size (w6)).alloc (Nat.le_refl _) (.cells #[.bool lb, .string (mkS b), .slice q n c2] 98)) (Nat.le_refl _)); replace SO := Lib.hid (SO.out.below ((Below.refl (w6).heap.size (w6)).alloc (Nat.le_refl _) (.cells #[.bool lb, .string (mkS b), .slice q n c2] 98)) (Nat.le_refl _)); replace HB := Lib.hid (HB.out.alloc HB.out.size (.cells #[.bool lb, .string (mkS b), .slice q n c2] 98)))
        generalize w6.alloc (.cells #[.bool lb, .string (mkS b), .slice q n c2] 98) = w8 at *
        generalize w6.heap.size = k10 at *
        go_wp2_with (at_builtin; refine wpList_append_tree (E := encIt) (A := (fun b => base ≤ b ∧ b < w.heap.size ∧ (Value.slice po ln co).ownBlock ≠ some b)) Try.underlying93 info_it rfl (by omega) rfl _ _ rfl (k6 + 1) _ (itTs (xs.take i)) rfl O.out ⟨k10, 0, none⟩ (itT (.mk lb b ks)) ((lb, b), q, n, c2) rfl (lit_cells R11.out rfl) HY.out (by have := HTL.out; omega) HSZ.out ?_)
        intro v' w' ho hg hbb hz
        obtain ⟨qo', dc', rfl, _, _⟩ := OwnT.shape ho
        have HNN : (itTs (xs.take i) ++ [itT (.mk lb b ks)]).length = i + 1 := by rw [List.length_append, HTL.out]; rfl
        rw [HNN]
        rw [HNN, HTK.out] at ho
        have hbk := hbb _ (Below.refl _ _)
        replace R6 := Lib.hid (R6.out.below hbk (Nat.lt_succ_self _))
        replace R3 := Lib.hid (R3.out.below hbk (by have := HG1.out; have := HG2.out; omega))
        replace SR := Lib.hid (SR.out.below hbk (by have := HKB.out; have := HBW.out; have := HG1.out; have := HG2.out; omega))
        replace SO := Lib.hid (SO.out.lowB hbk (fun g hg => by have := (HG0.out g hg).2; have := HG1.out; have := HG2.out; omega) (fun b hb => by have := hb.2; have := HG1.out; have := HG2.out; omega))
        replace HB := Lib.hid (HB.out.trans (hbk.mono (by have := HG1.out; have := HG2.out; omega)))
        replace O := Lib.hid ho
        clear ho hg hbb hz hbk HNN
        clear HY R11 HSZ
        obtain ⟨x0, x1, x2, xf0, xf1, xf2⟩ := R6.out.c3
        replace R6 := Lib.hid (R6.out.set 2 (.slice qo' (i + 1) dc') (cs' := #[.bool true, .string ⟨#[]⟩, .slice qo' (i + 1) dc']) rfl)
        replace O := Lib.hid (O.out.setLow ⟨k6, 2, none⟩ (.slice qo' (i + 1) dc') (Nat.lt_succ_self _) (fun b hb => (HNG.out b hb.2.1).2))
        replace R3 := Lib.hid (R3.out.other ⟨k6, 2, none⟩ (.slice qo' (i + 1) dc') H36.out)
        replace SR := Lib.hid (SR.out.other ⟨k6, 2, none⟩ (.slice qo' (i + 1) dc') HK6.out)
        replace SO := Lib.hid (SO.out.setOff ⟨k6, 2, none⟩ (.slice qo' (i + 1) dc') HO6.out (fun b hb => (HNG.out b hb.2).2))
        replace HB := Lib.hid (HB.out.setCell (p := ⟨k6, 2, none⟩) (by have := HG1.out; have := HG2.out; simp only; omega) (.slice qo' (i + 1) dc'))
        go_wp2
        exact ⟨⟨i + 1, qo', dc', by omega, by simp, R6, O, R3, SR, SO, HB⟩, by simp [intOf]; omega⟩
      · obtain rfl : i = 16 := by omega
        have HSTOP := hlt
        have HTL : Hid ((itTs (xs.take 16)).length = 16) := Lib.hid (by rw [itTs_map]; simp; have := HXL.out; omega)
        have HTK : Hid (itTs (xs.take 16) ++ [itT (strI nd.value)] = itTs (xs ++ [strI nd.value])) := Lib.hid (by rw [List.take_of_length_le (by have := HXL.out; omega), itTs_map, itTs_map, List.map_append]; rfl)
        obtain ⟨-, -, c2, -⟩ := R3.out.nd
        obtain ⟨y0, y1, y2, yf0, yf1, yf2⟩ := R6.out.c3
        go_upto_region 14 with (fail)
        have R11 := Lib.hid (RowAt.new wr #[.bool false, .string (mkS nd.value), .slice none 0 0] 98)
        have HSZ : Hid (k6 + 1 ≤ (wr.alloc (.cells #[.bool false, .string (mkS nd.value), .slice none 0 0] 98)).heap.size) := Lib.hid (by have := R6.out.lt; simp; omega)
        (replace R6 := Lib.hid (R6.out.alloc (.cells #[.bool false, .string (mkS nd.value), .slice none 0 0] 98)); replace R3 := Lib.hid (R3.out.alloc (.cells #[.bool false, .string (mkS nd.value), .slice none 0 0] 98)); replace SR := Lib.hid (SR.out.alloc (.cells #[.bool false, .string (mkS nd.value), .slice none 0 0] 98)); replace O := Lib.hid (O.out.below ((Below.refl (wr).heap.size (wr)).alloc (Nat.le_refl _) (.cells #[.bool false, .string (mkS nd.value), .slice none 0 0] 98)) (Nat.le_refl _)); replace SO := Lib.hid (SO.out.below ((Below.refl (wr).heap.size (wr)).alloc (Nat.le_refl _) (.cells #[.bool false, .string (mkS nd.value), .slice none 0 0] 98)) (Nat.le_refl _)); replace HB := Lib.hid (HB.out.alloc HB.out.size (.cells #[.bool false, .string (mkS nd.value), .slice none 0 0] 98)))
        go_wp2_with (at_builtin; refine wpList_append_tree (E := encIt) (A := (fun b => base ≤ b ∧ b < w.heap.size ∧ (Value.slice po ln co).ownBlock ≠ some b)) Try.underlying93 info_it rfl (by omega) rfl _ _ rfl (k6 + 1) _ (itTs (xs.take 16)) rfl O.out ⟨wr.heap.size, 0, none⟩ (itT (strI nd.value)) ((false, nd.value), none, 0, 0) rfl (lit_cells R11.out rfl) (.leaf _ _ _ (Nat.zero_le _) (fun _ => rfl)) (by have := HTL.out; omega) HSZ.out ?_)
        intro v' w' ho hg hbb hz
        obtain ⟨qo', dc', rfl, _, _⟩ := OwnT.shape ho
        have HNN : (itTs (xs.take 16) ++ [itT (strI nd.value)]).length = 17 := by rw [List.length_append, HTL.out]; rfl
        rw [HNN]
        rw [HNN, HTK.out] at ho
        have hbk := hbb _ (Below.refl _ _)
        replace R6 := Lib.hid (R6.out.below hbk (Nat.lt_succ_self _))
        replace R3 := Lib.hid (R3.out.below hbk (by have := HG1.out; have := HG2.out; omega))
        replace SR := Lib.hid (SR.out.below hbk (by have := HKB.out; have := HBW.out; have := HG1.out; have := HG2.out; omega))
        replace SO := Lib.hid (SO.out.lowB hbk (fun g hg => by have := (HG0.out g hg).2; have := HG1.out; have := HG2.out; omega) (fun b hb => by have := hb.2; have := HG1.out; have := HG2.out; omega))
        replace HB := Lib.hid (HB.out.trans (hbk.mono (by have := HG1.out; have := HG2.out; omega)))
        replace O := Lib.hid ho
        clear ho hg hbb hz hbk HNN
        clear R11 HSZ y0 y1 y2 yf0 yf1 yf2 c2
        obtain ⟨x0, x1, x2, xf0, xf1, xf2⟩ := R6.out.c3
        replace R6 := Lib.hid (R6.out.set 2 (.slice qo' (17) dc') (cs' := #[.bool true, .string ⟨#[]⟩, .slice qo' (17) dc']) rfl)
        replace O := Lib.hid (O.out.setLow ⟨k6, 2, none⟩ (.slice qo' (17) dc') (Nat.lt_succ_self _) (fun b hb => (HNG.out b hb.2.1).2))
        replace R3 := Lib.hid (R3.out.other ⟨k6, 2, none⟩ (.slice qo' (17) dc') H36.out)
        replace SR := Lib.hid (SR.out.other ⟨k6, 2, none⟩ (.slice qo' (17) dc') HK6.out)
        replace SO := Lib.hid (SO.out.setOff ⟨k6, 2, none⟩ (.slice qo' (17) dc') HO6.out (fun b hb => (HNG.out b hb.2).2))
        replace HB := Lib.hid (HB.out.setCell (p := ⟨k6, 2, none⟩) (by have := HG1.out; have := HG2.out; simp only; omega) (.slice qo' (17) dc'))
        go_wp2
        go_meet
        case rel =>
          refine ⟨qo', 17, dc', xs ++ [strI nd.value], rfl, HITB, R6, Lib.hid ?_, SR, SO, HB⟩
          exact (O.out.weaken (A' := (fun b => base ≤ b ∧ (Value.slice po ln co).ownBlock ≠ some b ∧ b ≠ k6)) (fun b hb => ⟨hb.1, hb.2.2, (HNG.out b hb.2.1).2⟩)).row (fun b hb => ⟨by have := HBW.out; have := HG1.out; have := HG2.out; omega, fun e => by have := (HG0.out b e).2; have := HG1.out; have := HG2.out; omega, by omega⟩)
  case rest =>
    obtain ⟨p, n, c, ks, rfl, hit, h6, hkk, hs, hso, hb⟩ := hcut
    clear R6 SR SO HB RG R3 c0
    have HIT := Lib.hid hit.out
    have R6 := Lib.hid h6.out
    have HK := Lib.hid hkk.out
    have SR := Lib.hid hs.out
    have SO := Lib.hid hso.out
    have HB := Lib.hid hb.out
    have HGD := Lib.hid HND.out.good
    rw [hit.out] at HGD
    clear hit h6 hkk hs hso hb
    have hyl := HGD.out.2.2
    have KE : Hid (Calls Try.prog 45 #[.agg #[.bool true, .string ⟨#[]⟩, .slice p n c]] wc fun e w' => e = .returned (.tuple #[.string (mkS (It.mk true [] ks).write), .int .i64 0]) ∧ Below wc.heap.size wc w') := Lib.hid (by
      have := encode_any (.mk true [] ks) (.agg #[.bool true, .string ⟨#[]⟩, .slice p n c]) wc (HGD.out.is (b := []) HK.out) (fun _ _ => by omega)
      rw [HGD.out.enc] at this
      exact this)
    have HRF : Hid (referI (.mk true [] ks) = if (It.mk true [] ks).write.length < 32 then .mk true [] ks else strI (sumL (It.mk true [] ks).write)) := Lib.hid rfl
    have HW : Hid ((itN its nd).write = (It.mk true [] ks).write) := Lib.hid (by rw [HIT.out])
    have HRI : Hid (referI (itN its nd) = referI (.mk true [] ks)) := Lib.hid (by rw [HIT.out])
    generalize (It.mk true [] ks).write = y at *
    obtain ⟨x0, x1, x2, xf0, xf1, xf2⟩ := R6.out.c3
    go_upto_region 16 with (go_at_call 45; (with_reducible refine KE.out.mono ?_); rintro e w6 ⟨rfl, hb⟩; (replace R6 := Lib.hid (R6.out.belowS hb); replace SR := Lib.hid (SR.out.belowS hb); replace SO := Lib.hid (SO.out.below hb (Nat.le_refl _)); replace HK := Lib.hid (HK.out.below hb (Nat.le_refl _)); replace HB := Lib.hid (HB.out.trans (hb.mono HB.out.size)); clear hb); clear KE x0 x1 x2 xf0 xf1 xf2; obtain ⟨s0, s1, sf0, sf1⟩ := SR.out.c2)
    replace R6 := Lib.hid (R6.out.other ⟨k, 1, none⟩ (.string (mkS y)) (by have := HKB.out; have := HBW.out; have := HG1.out; have := HG2.out; simp only; omega))
    replace SR := Lib.hid (SR.out.set 1 (.string (mkS y)) (cs' := #[.slice po ln co, .string (mkS y)]) rfl)
    replace SO := Lib.hid (SO.out.setLow ⟨k, 1, none⟩ (.string (mkS y)) HKB.out (fun b hb => by have := HKB.out; have := hb.1; simp only; omega))
    replace HK := Lib.hid (show RowT encIt (fun b => base ≤ b ∧ (Value.slice po ln co).ownBlock ≠ some b ∧ b ≠ k6) (w6.setCell ⟨k, 1, none⟩ (.string (mkS y))) (.slice p n c) (itTs ks) from HK.out.keep (fun a v ha hc => by
      rw [World.cell?_setCell_other]
      · exact hc
      · intro e; subst e; have h1 : base ≤ k := ha.1; have := HKB.out; omega) (fun b hb => hb))
    have HBk : Hid (Below k w (w6.setCell ⟨k, 1, none⟩ (.string (mkS y)))) := Lib.hid ((HB.out.mono (by have := HKB.out; have := HBW.out; omega)).setCell (p := ⟨k, 1, none⟩) (Nat.le_refl k) _)
    clear s0 s1 sf0 sf1 HB
    generalize w6.setCell ⟨k, 1, none⟩ (.string (mkS y)) = w7 at *
    obtain ⟨s0, s1, sf0, sf1⟩ := SR.out.c2
    have hsz := mk_size y
    go_upto_if 78 with (fail)
    go_cut [6] (fun t wr => ∃ (l : Bool) (b : List UInt8) (q : Option Addr) (m d : Nat) (ks' : List It), t = .pointer (some ⟨k6, 0, none⟩) ∧ Hid (referI (.mk true [] ks) = .mk l b ks') ∧ Hid (RowAt wr k6 #[.bool l, .string (mkS b), .slice q m d] 98) ∧ Hid (RowT encIt (fun b => base ≤ b ∧ (Value.slice po ln co).ownBlock ≠ some b ∧ b ≠ k6) wr (.slice q m d) (itTs ks')) ∧ Hid (RowAt wr k #[.slice po ln co, .string (mkS y)] 95) ∧ Hid (OwnT encIt 98 (fun b => base ≤ b ∧ b < w.heap.size) wr base (.slice po ln co) (itTs its)) ∧ Hid (Below k w wr))
    case first =>
      by_cases h32 : y.length < 32
      · have hq : ¬ (32 : Int) ≤ ((mkS y).size : Int) := by omega
        have hq2 : decide ((32 : Int) ≤ ((mkS y).size : Int)) = false := decide_eq_false hq
        go_wp2
        go_meet
        case rel => exact ⟨true, [], p, n, c, ks, rfl, Lib.hid (by rw [HRF.out, if_pos h32]), R6, HK, SR, SO, HBk⟩
      · have hq : (32 : Int) ≤ ((mkS y).size : Int) := by omega
        have hq2 : decide ((32 : Int) ≤ ((mkS y).size : Int)) = true := decide_eq_true hq
        have KS : Hid (∀ W, Calls Try.prog 47 #[.string (mkS y)] W fun e w' => e = .returned (.string (mkS (sumL y))) ∧ Below W.heap.size W w') := Lib.hid (fun W => by
          have := sum_any (mkS y) (by omega) W
          rwa [bl_mk] at this)
        have HRS : Hid (referI (.mk true [] ks) = strI (sumL y)) := Lib.hid (by rw [HRF.out, if_neg h32])
        generalize sumL y = h at *
        have H6k : Hid (k ≠ k6) := Lib.hid (by have := HKB.out; have := HBW.out; have := HG1.out; have := HG2.out; omega)
        have HO6 : Hid (∀ g, (Value.slice po ln co).ownBlock = some g → g ≠ k6) := Lib.hid (fun g hg => by have := (HG0.out g hg).2; have := HG1.out; have := HG2.out; omega)
        have HA6 : Hid (∀ b, (base ≤ b ∧ b < w.heap.size) → b ≠ k6) := Lib.hid (fun b hb => by have := hb.2; have := HG1.out; have := HG2.out; omega)
        have nB : k ≤ k6 := by have := HKB.out; have := HBW.out; have := HG1.out; have := HG2.out; omega
        obtain ⟨x0, x1, x2, xf0, xf1, xf2⟩ := R6.out.c3
        clear HK
        go_wp2_with (go_at_call 47; (with_reducible refine (KS.out _).mono ?_); rintro e w8 ⟨rfl, hb⟩; replace HBk := Lib.hid (HBk.out.trans (hb.mono (by have := R6.out.lt; omega))); (replace R6 := Lib.hid (R6.out.belowS hb); replace SR := Lib.hid (SR.out.belowS hb); replace SO := Lib.hid (SO.out.below hb (Nat.le_refl _)); clear hb); clear KS x0 x1 x2 xf0 xf1 xf2; obtain ⟨x0, x1, x2, xf0, xf1, xf2⟩ := R6.out.c3)
        go_meet
        case rel =>
          refine ⟨false, h, none, 0, 0, [], rfl, HRS, Lib.hid (((R6.out.set 0 _ rfl).set 1 _ rfl).set 2 _ rfl), Lib.hid RowT.nil, Lib.hid (((SR.out.other ⟨k6, 0, none⟩ _ H6k.out).other ⟨k6, 1, none⟩ _ H6k.out).other ⟨k6, 2, none⟩ _ H6k.out), Lib.hid (((SO.out.setOff ⟨k6, 0, none⟩ _ HO6.out HA6.out).setOff ⟨k6, 1, none⟩ _ HO6.out HA6.out).setOff ⟨k6, 2, none⟩ _ HO6.out HA6.out), Lib.hid (((HBk.out.setCell (p := ⟨k6, 0, none⟩) nB _).setCell (p := ⟨k6, 1, none⟩) nB _).setCell (p := ⟨k6, 2, none⟩) nB _)⟩
    case rest =>
      obtain ⟨l, b, q, m, d, ks', rfl, hre, h6, hkk, hs, hso, hb⟩ := hcut
      clear R6 SR SO HBk HK s0 s1 sf0 sf1 hsz
      have HRE := Lib.hid hre.out
      have R6 := Lib.hid h6.out
      have HK := Lib.hid hkk.out
      have SR := Lib.hid hs.out
      have SO := Lib.hid (hso.out.weaken (A' := fun b => base ≤ b) (fun b hb => hb.1))
      have HB := Lib.hid hb.out
      clear hre h6 hkk hs hso hb
      have HTL : (itTs its).length = ln := by rw [itTs_map, List.length_map]; exact HLN.out
      obtain ⟨tsI, htsI⟩ : ∃ t, itTs its = t := ⟨_, rfl⟩
      rw [htsI] at HTL SO
      have HTI := Lib.hid htsI
      clear htsI
      subst HTL
      have s1 := SO.out.shape
      obtain ⟨_, _, z0, z1, z2⟩ := s1
      injection z0 with e1 e2 z0
      subst z0
      clear e1 e2
      unfold maxLen at z2
      obtain ⟨s0, s1, sf0, sf1⟩ := SR.out.c2
      obtain ⟨x0, x1, x2, xf0, xf1, xf2⟩ := R6.out.c3
      have HKW : Hid (k < wc.heap.size) := Lib.hid SR.out.lt
      have HZB := Lib.hid (((Below.refl wc.heap.size wc).drew).alloc (Nat.le_refl _) (.cells #[.bool false, .string ⟨#[]⟩, .slice none 0 0] 98))
      have Z1 := Lib.hid (RowAt.new wc.drew #[.bool false, .string ⟨#[]⟩, .slice none 0 0] 98)
      have O1 := Lib.hid (OwnT.below SO.out HZB.out (Nat.le_refl _))
      have HR1 := Lib.hid (SR.out.drew.alloc (.cells #[.bool false, .string ⟨#[]⟩, .slice none 0 0] 98))
      have HB1 := Lib.hid (HB.out.trans (HZB.out.mono (Nat.le_of_lt HKW.out)))
      have HT1 := Lib.hid ((RowT.node (l, b) (s := (q, m, d)) HK.out).move HZB.out (Nat.le_refl _))
      have HLE : Hid (base ≤ (wc.drew.alloc (.cells #[.bool false, .string ⟨#[]⟩, .slice none 0 0] 98)).heap.size) := Lib.hid (by have := HB1.out.size; have := HBW.out; omega)
      have hkw : k < wc.heap.size := HKW.out
      have hkw6 : k6 < wc.heap.size := R6.out.lt
      have q9 : (tsI.length : Int) < (tsI.length : Int) + 1 := by omega
      go_upto_region 18 with (fail)
      go_region_law (refine step_append_tree (E := encIt) (A := fun b => base ≤ b) Try.underlying93 info_it rfl (by omega) rfl _ _ rfl base _ tsI rfl O1.out ⟨wc.heap.size, 0, none⟩ (.mk (false, []) []) ((false, []), none, 0, 0) rfl (lit_cells (E := encIt) Z1.out rfl) (.leaf _ _ _ (by unfold maxLen; omega) (fun _ => rfl)) (by omega) HLE.out ?_; intro v' w1 ho hg hbb hz hkp; obtain ⟨g, c', rfl, t1, t2, t3, t4, t5, t6, t7⟩ := ho.last; have hkg : ¬ k = g := (by have := HKB.out; omega); obtain ⟨u0, d0⟩ := t5 0 (by decide); obtain ⟨u1, d1⟩ := t5 1 (by decide); obtain ⟨u2, d2⟩ := t5 2 (by decide); replace d0 : w1.cell? ⟨g, tsI.length * 3, none⟩ = some u0 := d0; replace d1 : w1.cell? ⟨g, tsI.length * 3 + 1, none⟩ = some u1 := d1; replace d2 : w1.cell? ⟨g, tsI.length * 3 + 2, none⟩ = some u2 := d2; have HR2 := Lib.hid (HR1.out.below (hbb _ (Below.refl _ _)) HKB.out); have e0 : w1.cell? ⟨k, 0, none⟩ = some (.slice po tsI.length co) := HR2.out.cell 0; have ef0 : w1.frozen? ⟨k, 0, none⟩ = false := HR2.out.frozen 0; have HO := Lib.hid ho; have HB2 := Lib.hid (HB1.out.trans ((hbb _ (Below.refl _ _)).mono (Nat.le_of_lt HKB.out))); have HL2 := Lib.hid (Nat.le_trans HLE.out hz); have HT2 := Lib.hid (hkp _ _ (HT1.out.weaken (A' := fun b => base ≤ b ∧ (Value.slice po tsI.length co).ownBlock ≠ some b) (fun b hb => ⟨hb.1, hb.2.1⟩))); clear ho hbb hg t5 t7 hkp s0 s1 sf0 sf1)
      all_goals
        go_end0
        have HT3 : TreeP encIt (fun b => base ≤ b ∧ b ≠ g) w1 (itT (.mk l b ks')) ((l, b), q, m, d) := HT2.out.weaken (fun b' hb' => ⟨hb'.1, fun e => hb'.2 (by rw [e]; rfl)⟩)
        refine ⟨some ⟨g, 0, none⟩, c', rfl, ?_⟩
        rw [HW.out, HRI.out, HRE.out]
        first
        | with_reducible exact SmT.endA2 HTI.out HR2.out HO.out HKB.out HL2.out HB2.out HT3
        | with_reducible exact SmT.endB2 HTI.out HR2.out HO.out HKB.out HL2.out HB2.out HT3
end Go.Proofs.Ytefmlbckbhlgdaa
