/- Nodes as whole rows: read, stored, laid in a row of their own. The trie's arena: a row of one's own that grows by an element; what else there is stays; fresh nodes. Tries in memory: the reference's lay, walked. Tries in memory: the trie that the document makes of pairs. -/
import Derived.Great.BuildSlice
import Derived.Test.YtefmlbckbhlgdaaTm6
namespace Go.Proofs.Ytefmlbckbhlgdaa
open Go.RowKit
set_option maxRecDepth 100000
theorem ndc_one (n : Nd) : (ndc n).all (·.oneCell') = true := by
  rw [Array.all_eq_true_iff_forall_mem]
  intro v hv
  exact encN.one n v (by simpa [encN] using hv)

/-- A whole struct that lies anywhere is read. -/
theorem run_loadVar_at {P : Program} (w : World) (ty : TypeId) (a : Addr) (cs : Array Value) (d : TypeDesc) (hc : ∀ j u, cs[j]? = some u → w.cell? (a.add j) = some u)
    (hu : P.underlying ty = some d) (hd : (match d with | .struct _ | .array _ _ => true | _ => false) = true) (hi : (P.info? ty).map (·.size) = some cs.size) :
    (loadVar ty a).run P w = .ok (.agg cs) w := by
  have hl : (loadCells a cs.toList.length).run P w = .ok cs.toList.toArray w :=
    run_loadCells_list (P := P) w a cs.toList (fun j v hv => hc j v (by simpa using hv))
  cases hq : P.info? ty with
  | none => simp [hq] at hi
  | some i =>
    have hs : i.size = cs.size := by simpa [hq] using hi
    have hagg : (isAgg ty).run P w = .ok true w := by
      unfold isAgg
      rw [Sem.run_bind, run_underlying hu w]
      cases d <;> simp_all
    simp only [Array.length_toList, Array.toArray_toList] at hl
    simp [loadVar, Sem.run_bind, hagg, sizeOf, typeInfo, hq, hs, hl]

theorem und_nd : ∃ fs, Try.prog.underlying 88 = some (.struct fs) := ⟨_, Try.underlying88⟩
theorem size_nd (n : Nd) : (Try.prog.info? 88).map (·.size) = some (ndc n).size := by
  obtain ⟨i0, hi, hz0, hz1, hz2⟩ := info_parts info_nd
  rw [hi, Option.map_some, hz1]; rfl
/-- Where a node lies: its cells, one behind the other. -/
def NdAt (w : World) (a : Addr) (n : Nd) : Prop := ∀ j u, (ndc n)[j]? = some u → w.cell? (a.add j) = some u
theorem NdAt.ofRow {w : World} {k : Nat} {n : Nd} (h : RowAt w k (ndc n) 88) : NdAt w ⟨k, 0, none⟩ n := fun j u hj => by
  have hadd : (⟨k, 0, none⟩ : Addr).add j = ⟨k, j, none⟩ := by unfold Addr.add; split <;> simp_all
  rw [hadd, h.cell]
  exact hj
theorem NdAt.ofRowE {w : World} {p : Option Addr} {n c : Nat} {l : List Nd} (h : RowE encN w (.slice p n c) l) {i : Nat} {x : Nd} (hx : l[i]? = some x) : ∃ a, p = some a ∧ NdAt w (a.add (i * 19)) x := by
  rcases h with ⟨_, rfl⟩ | ⟨a, cap, hv, h1, h2, hc⟩
  · simp at hx
  · injection hv with e1 e2 e3
    subst e1 e2 e3
    refine ⟨a, rfl, fun j u hj => ?_⟩
    have hlt : j < 19 := by have := (Array.getElem?_eq_some_iff.1 hj).1; rw [ndc_size] at this; exact this
    have h := hc (i * 19 + j) u (by have := flat_get encN hx j hlt; rw [show i * 19 + j = i * encN.k + j from rfl, this]; simpa [encN] using hj)
    rw [← Go.Deep.add_add] at h
    exact h
theorem NdAt.below {w w' : World} {a : Addr} {n : Nd} {B : Nat} (h : NdAt w a n) (hb : Below B w w') (hB : w.heap.size ≤ B) : NdAt w' a n := fun j u hj => by
  have := h j u hj
  have hlt := block_lt_of_cell this
  rw [hb.cell (by omega)]
  exact this

theorem wpList_load_nd {ops : Array Oper} {rest : List Oper} {o : Oper} {a : Act} {w : World} {Q : Exit → Act → World → Prop} (hgd : o.guard = none) (x : Operand) (ho : o.op = .load 88 x)
    (ad : Addr) (n : Nd) (hx : a.eval x = .pointer (some ad)) (hn : NdAt w ad n) (h : wpList Try.prog ops Q rest (a.put o.dst (.agg (ndc n))) w) : wpList Try.prog ops Q (o :: rest) a w := by
  obtain ⟨fs, hu⟩ := und_nd
  refine wpList_plain hgd fun _ hK => ?_
  unfold Oper.wp execOp
  simp only [ho, hx, Instr.loadAt, Instr.sureAddr, Sem.run_bind, Sem.run_pure, Result.andThen_ok, run_loadVar_at w _ ad (ndc n) _ hn hu rfl (size_nd n)]
  exact hK _ _ h
/-- A whole node is stored into a block of its own. -/
theorem wpList_store_nd {ops : Array Oper} {rest : List Oper} {o : Oper} {a : Act} {w : World} {Q : Exit → Act → World → Prop} (hgd : o.guard = none) (x y : Operand) (ho : o.op = .store 88 x y)
    (g : Nat) (n : Nd) (hx : a.eval x = .pointer (some ⟨g, 0, none⟩)) (hy : a.eval y = .agg (ndc n)) (old : Array Value) (hg : RowAt w g old 88) (hold : old.size = 19)
    (h : ∀ w', RowAt w' g (ndc n) 88 → (∀ B w0, Below B w0 w → B ≤ g → Below B w0 w') → (∀ k, k ≠ g → w'.heap[k]? = w.heap[k]?) → w'.heap.size = w.heap.size → wpList Try.prog ops Q rest (a.put o.dst undef) w') : wpList Try.prog ops Q (o :: rest) a w := by
  refine wpList_store_row hgd _ x y ho g (ndc n) hx hy _ old hg (size_nd n) (by rw [hold]; rfl) (ndc_one n) ?_
  exact h _ (setRow_heap _ _ _ _ _ _ hg) (fun B w0 hb hB => below_setRow hb hB _) (fun k hk => setRow_other _ _ _ _ hk) (setRow_size _ _ _)
theorem built_nd (n : Nd) (cells : Array Value) (hz : cells.size = 19) : Instr.fill (fun i => some (i * 19, 19)) cells [(0, .agg (ndc n))] = some (ndc n) := by
  obtain ⟨r, h1, h2, h3⟩ := Great.fill_dense (s := 19) (by decide) [.agg (ndc n)] 0 cells (fun v hv => by rw [List.mem_singleton.1 hv]; exact ndc_size n) (by simp [hz])
  have e : r = ndc n := by
    apply Array.ext_getElem?
    intro k
    rw [h3 k]
    by_cases hk : k < 19
    · rw [if_pos (by simp; omega)]
      have hd : k / 19 - 0 = 0 := by rw [Nat.div_eq_of_lt hk]
      have hm : k % 19 = k := Nat.mod_eq_of_lt hk
      rw [hd, hm]
      rfl
    · rw [if_neg (by simp; omega), Array.getElem?_eq_none (by omega), Array.getElem?_eq_none (by rw [ndc_size]; omega)]
  rw [e] at h1
  exact h1
theorem RowAt.nd {w : World} {k : Nat} {n : Nd} {T : TypeId} (h : RowAt w k (ndc n) T) : w.cell? ⟨k, 0, none⟩ = some (.int .i64 n.kind) ∧ w.cell? ⟨k, 1, none⟩ = some (.string (mkS n.part)) ∧ w.cell? ⟨k, 2, none⟩ = some (.string (mkS n.value)) ∧
    w.frozen? ⟨k, 0, none⟩ = false ∧ w.frozen? ⟨k, 1, none⟩ = false ∧ w.frozen? ⟨k, 2, none⟩ = false := ⟨h.cell 0, h.cell 1, h.cell 2, h.frozen 0, h.frozen 1, h.frozen 2⟩
theorem RowAt.ndK {w : World} {k : Nat} {n : Nd} {T : TypeId} (h : RowAt w k (ndc n) T) (i : Nat) (hi : i < 16) : w.cell? ⟨k, 3 + i, none⟩ = some (kidV n i) ∧ w.frozen? ⟨k, 3 + i, none⟩ = false := by
  refine ⟨?_, h.frozen _⟩
  rw [h.cell]
  have : i = 0 ∨ i = 1 ∨ i = 2 ∨ i = 3 ∨ i = 4 ∨ i = 5 ∨ i = 6 ∨ i = 7 ∨ i = 8 ∨ i = 9 ∨ i = 10 ∨ i = 11 ∨ i = 12 ∨ i = 13 ∨ i = 14 ∨ i = 15 := by omega
  rcases this with rfl | rfl | rfl | rfl | rfl | rfl | rfl | rfl | rfl | rfl | rfl | rfl | rfl | rfl | rfl | rfl <;> rfl
theorem RowAt.ndKind {w : World} {k : Nat} {n : Nd} {T : TypeId} (h : RowAt w k (ndc n) T) (x : Int) : RowAt (w.setCell ⟨k, 0, none⟩ (.int .i64 x)) k (ndc { n with kind := x }) T := h.set 0 _ (ndc_kind n x)
theorem RowAt.ndPart {w : World} {k : Nat} {n : Nd} {T : TypeId} (h : RowAt w k (ndc n) T) (s : List UInt8) : RowAt (w.setCell ⟨k, 1, none⟩ (.string (mkS s))) k (ndc { n with part := s }) T := h.set 1 _ (ndc_part n s)
theorem RowAt.ndValue {w : World} {k : Nat} {n : Nd} {T : TypeId} (h : RowAt w k (ndc n) T) (s : List UInt8) : RowAt (w.setCell ⟨k, 2, none⟩ (.string (mkS s))) k (ndc { n with value := s }) T := h.set 2 _ (ndc_value n s)
theorem RowAt.ndKid {w : World} {k : Nat} {n : Nd} {T : TypeId} (h : RowAt w k (ndc n) T) (hn : n.kids.length = 16) (i : Nat) (hi : i < 16) (x : Int) : RowAt (w.setCell ⟨k, 3 + i, none⟩ (.int .i64 x)) k (ndc { n with kids := n.kids.set i x }) T := h.set (3 + i) _ (ndc_kid n hn i hi x)
/-- A row of one node. -/
theorem wpList_one_nd {ops : Array Oper} {rest : List Oper} {o : Oper} {a : Act} {w : World} {Q : Exit → Act → World → Prop} (hgd : o.guard = none) (x : Operand) (ho : o.op = .buildSlice 35 1 #[(0, x)]) (n : Nd) (hx : a.eval x = .agg (ndc n))
    (h : wpList Try.prog ops Q rest (a.put o.dst (.slice (some ⟨w.heap.size, 0, none⟩) 1 1)) (w.alloc (.cells (ndc n) 88))) : wpList Try.prog ops Q (o :: rest) a w := by
  obtain ⟨i0, hi, hz0, hz1, hz2⟩ := info_parts info_nd
  refine wpList_buildSlice hgd _ 88 1 _ ho (ndc n) i0 _ Try.underlying35 hi hz0 (by rw [hz1]; decide) (by rw [hz1]; decide) ?_ h
  have e : (#[(0, x)].map fun (i, x) => (i, a.eval x)).toList = [(0, .agg (ndc n))] := by simp [hx]
  rw [e, hz1]
  exact built_nd n _ (by simp)
theorem run_one_nd (w : World) (n : Nd) : (Instr.buildSlice 35 1 #[(0, .agg (ndc n))]).run Try.prog w = .ok (.slice (some ⟨w.heap.size, 0, none⟩) 1 1) (w.alloc (.cells (ndc n) 88)) := by
  obtain ⟨i0, hi, hz0, hz1, hz2⟩ := info_parts info_nd
  refine run_buildSlice w _ 88 1 _ (ndc n) i0 _ Try.underlying35 hi hz0 (by rw [hz1]; decide) (by rw [hz1]; decide) ?_
  rw [hz1]
  exact built_nd n _ (by simp)
/-- Nodes laid behind a row of one's own. -/
def RN (w : World) (v : Value) (l : List Nd) : Prop := RowE encN w v l
theorem RN.below {w w' : World} {v : Value} {l : List Nd} {B : Nat} (h : RN w v l) (hb : Below B w w') (hB : w.heap.size ≤ B) : RN w' v l := RowE.below encN h hb hB
def ON (w : World) (base : Nat) (v : Value) (l : List Nd) : Prop := OwnE encN 88 w base v l
theorem ON.below {w w' : World} {base B : Nat} {v : Value} {l : List Nd} (h : ON w base v l) (hb : Below B w w') (hB : w.heap.size ≤ B) : ON w' base v l := OwnE.below encN h hb hB
theorem wpList_append_nd {ops : Array Oper} {rest : List Oper} {o : Oper} {a : Act} {Q : Exit → Act → World → Prop} {w : World} (hgd : o.guard = Option.none) (s x : Operand)
    (ho : o.op = .call { callee := .builtin .append, args := #[s, x], argTypes := #[35, 35] }) (base : Nat) (v : Value) (l : List Nd) (hs : a.eval s = v) (hown : ON w base v l)
    (v2 : Value) (news : List Nd) (hx : a.eval x = v2) (hsrc : RN w v2 news) (hb : l.length + news.length ≤ 800000) (hbase : base ≤ w.heap.size)
    (h : ∀ v' w', ON w' base v' (l ++ news) → (∀ w0, Below base w0 w → Below base w0 w') → w.heap.size ≤ w'.heap.size → w.grownBy w' v.ownBlock → wpList Try.prog ops Q rest (a.put o.dst v') w') : wpList Try.prog ops Q (o :: rest) a w :=
  wpList_append_rowG encN Try.underlying35 info_nd rfl hgd s x ho base v l hs hown v2 news hx hsrc (by unfold maxLen; omega) (by omega) hbase fun v' w' h1 h2 h3 h4 _ => h v' w' h1 h3 h4 h2
end Go.Proofs.Ytefmlbckbhlgdaa
namespace Go.Proofs.Ytefmlbckbhlgdaa
open Go.RowKit
set_option maxRecDepth 100000
/-- All blocks but one and a row's own stay as they are. -/
structure AK (ka : Nat) (r : Option Nat) (w w' : World) : Prop where
  os : w'.os = w.os
  tape : w'.tape = w.tape
  output : w'.output = w.output
  size : w.heap.size ≤ w'.heap.size
  block : ∀ k, k < w.heap.size → k ≠ ka → some k ≠ r → w'.heap[k]? = w.heap[k]?
theorem AK.refl (ka : Nat) (r : Option Nat) (w : World) : AK ka r w w := ⟨rfl, rfl, rfl, Nat.le_refl _, fun _ _ _ _ => rfl⟩
theorem AK.ofBelow {ka : Nat} {r : Option Nat} {w w' : World} (h : Below w.heap.size w w') : AK ka r w w' := ⟨h.os, h.tape, h.output, h.size, fun k hk _ _ => h.block k hk⟩
theorem AK.ofGrown {ka : Nat} {r : Option Nat} {w w' : World} (h : w.grownBy w' r) : AK ka r w w' := ⟨h.os, h.tape, h.output, h.size, fun k hk _ h3 => h.block k hk h3⟩
theorem AK.set {ka : Nat} {r : Option Nat} {w : World} (i : Nat) (v : Value) : AK ka r w (w.setCell ⟨ka, i, none⟩ v) := ⟨rfl, rfl, rfl, by simp [World.setCell], fun k _ h2 _ => heap_setCell_other _ ⟨ka, i, none⟩ _ _ h2⟩
/-- One behind the other: the row stays or lies in a new block. -/
theorem AK.trans {ka : Nat} {r r' : Option Nat} {a b c : World} (h : AK ka r a b) (k : AK ka r' b c) (hr : ∀ g, r' = some g → r = some g ∨ a.heap.size ≤ g) : AK ka r a c :=
  ⟨k.os.trans h.os, k.tape.trans h.tape, k.output.trans h.output, Nat.le_trans h.size k.size, fun i hi h1 h2 => by
    rw [k.block i (by have := h.size; omega) h1 (fun e => ?_), h.block i hi h1 h2]
    rcases hr i e.symm with e' | e'
    · exact h2 e'.symm
    · omega⟩
theorem AK.same {ka : Nat} {r : Option Nat} {a b c : World} (h : AK ka r a b) (k : AK ka r b c) : AK ka r a c := h.trans k fun _ e => .inl e
theorem AK.below {ka B : Nat} {r : Option Nat} {w w0 w' : World} (h : AK ka r w w') (hb : Below B w0 w) (hB : B ≤ w.heap.size) (hka : B ≤ ka) (hr : ∀ g, r = some g → B ≤ g) : Below B w0 w' :=
  ⟨h.os.trans hb.os, h.tape.trans hb.tape, h.output.trans hb.output, Nat.le_trans hb.size h.size, fun k hk => by
    rw [h.block k (by omega) (by omega) (fun e => by have := hr k e.symm; omega), hb.block k hk]⟩
theorem RowAt.ak {ka k : Nat} {r : Option Nat} {w w' : World} {cs : Array Value} {T : TypeId} (h : RowAt w k cs T) (ha : AK ka r w w') (h1 : k ≠ ka) (h2 : r ≠ some k) : RowAt w' k cs T := by
  unfold RowAt
  rw [ha.block k h.lt h1 (fun e => h2 e.symm)]
  exact h

/-- A row of one's own that grows by one element stays where it was, or lies in a new block. -/
theorem run_append_oneE {α : Type} (E : Enc α) {ts te : TypeId} {z : Value} {bytes : Nat} (ht : Try.prog.underlying ts = some (.slice te)) (hinf : (Try.prog.info? te).map (fun i => (i.zero, i.size, i.bytes)) = some (some z, E.k, bytes)) (hzs : z.cells.size = E.k)
    (w : World) (ty : TypeId) (base : Nat) (v : Value) (l : List α) (hown : OwnE E te w base v l) (ad : Addr) (y : α) (hc : ∀ j u, (E.cells y)[j]? = some u → w.cell? (ad.add j) = some u)
    (hb : l.length + 1 ≤ maxLen) (hby : (l.length + 1) * bytes ≤ 140737488355328) (hbase : base ≤ w.heap.size) :
    ∃ v' w', (Builtin.append_ #[ts, ts] ty #[v, .slice (some ad) 1 1]).run Try.prog w = .ok v' w' ∧ OwnE E te w' base v' (l ++ [y]) ∧ w.grownBy w' v.ownBlock ∧ (∀ g, v'.ownBlock = some g → v.ownBlock = some g ∨ w.heap.size ≤ g) := by
  obtain ⟨i0, hi, hz0, hz1, hz2⟩ := info_parts hinf
  have e1 : flat E [y] = E.cells y := by simp [flat]
  have hone : ∀ u ∈ E.cells y, u.oneCell' = true := E.one y
  have hown' : w.ownsRow base te E.k v l.length (flat E l) := hown
  have hby' : (l.length + 1) * i0.bytes ≤ 140737488355328 := by rw [hz2]; exact hby
  have hpos := E.pos
  obtain ⟨v', w', hr, h2, h3, _⟩ := run_append_own (P := Try.prog) w base ts ty te i0 _ E.k bytes ht hi hz0 hz1 hz2 hzs E.pos v l.length (flat E l) hown ad 1 1 (E.cells y) (by rw [E.len, Nat.one_mul]) hc hone hb hby hbase
  refine ⟨v', w', hr, ?_, h3, ?_⟩
  · unfold OwnE
    rw [List.length_append, flat_append, e1]
    exact h2
  · rcases hown'.2 with ⟨rfl, h0⟩ | ⟨g, cap, cur, rfl, hbg, hg, hnc, hcm, hcs, htake⟩
    · obtain ⟨v2, w2, hr2, k2, _, _⟩ := run_append_own (P := Try.prog) w w.heap.size ts ty te i0 _ E.k bytes ht hi hz0 hz1 hz2 hzs E.pos (.slice none 0 0) 0 [] (World.ownsRow_nil w w.heap.size te E.k) ad 1 1 (E.cells y) (by rw [E.len, Nat.one_mul]) hc hone (by omega) (Nat.le_trans (Nat.mul_le_mul_right _ (by omega)) hby) (Nat.le_refl _)
      rw [hr] at hr2
      injection hr2 with e2 e3
      subst e2
      intro g hg
      rcases k2.2 with ⟨e, _⟩ | ⟨g', cap, cur, e, hgb, _⟩
      · rw [e] at hg; cases hg
      · rw [e] at hg; simp [Value.ownBlock] at hg; exact .inr (by omega)
    · intro g' hg'
      by_cases hroom : l.length + 1 ≤ cap
      · have hr2 := run_append_room (P := Try.prog) w ts ty te i0 ht hi g l.length cap cur hg ad 1 1 (E.cells y) (by rw [hz1, E.len, Nat.one_mul]) hc hone hroom (by have := Nat.mul_le_mul_right E.k hroom; rw [Nat.add_mul, Nat.one_mul] at this; rw [hz1, hcs, E.len]; exact this)
        rw [hr] at hr2
        injection hr2 with e2 e3
        subst e2
        exact .inl hg'
      · have hr2 := run_append_grow (P := Try.prog) w ts ty te i0 _ ht hi hz0 ⟨g, 0, none⟩ l.length cap (flat E l) (by rw [flat_length, hz1]) (hown'.cells rfl) ad 1 1 (E.cells y) (by rw [hz1, E.len, Nat.one_mul]) hc (by omega) (by unfold maxLen at hb; omega) (growslice_fits (by omega) hby')
        rw [hr] at hr2
        injection hr2 with e2 e3
        subst e2
        simp [Value.ownBlock] at hg'
        exact .inr (by omega)

/-- A fresh node. -/
def frN (kd : Int) : Nd := ⟨kd, [], [], noKids⟩
def frK (kd : Int) (i : Nat) : Nd := ⟨kd, [], [], List.replicate i (-1) ++ List.replicate (16 - i) 0⟩
theorem frK_set (kd : Int) (i : Nat) (h : i < 16) : (ndc (frK kd i)).setIfInBounds (3 + i) (.int .i64 (-1)) = ndc (frK kd (i + 1)) := by
  have : i = 0 ∨ i = 1 ∨ i = 2 ∨ i = 3 ∨ i = 4 ∨ i = 5 ∨ i = 6 ∨ i = 7 ∨ i = 8 ∨ i = 9 ∨ i = 10 ∨ i = 11 ∨ i = 12 ∨ i = 13 ∨ i = 14 ∨ i = 15 := by omega
  rcases this with rfl | rfl | rfl | rfl | rfl | rfl | rfl | rfl | rfl | rfl | rfl | rfl | rfl | rfl | rfl | rfl <;> rfl
end Go.Proofs.Ytefmlbckbhlgdaa
namespace Go.Proofs.Ytefmlbckbhlgdaa
open Go.RowKit
set_option maxRecDepth 100000
/-- A row that no node of lies in a block. -/
def Apart (v : Value) (l : List Nd) (k : Nat) : Prop := l = [] ∨ v.ownBlock ≠ some k
theorem RN.apart {w : World} {v : Value} {l : List Nd} (h : RN w v l) {k : Nat} (hk : w.heap.size ≤ k) : Apart v l k := by
  rcases h with ⟨_, h⟩ | ⟨a, cap, rfl, h1, h2, hc⟩
  · exact .inl h
  · cases l with
    | nil => exact .inl rfl
    | cons n l =>
      have h0 := hc 0 (.int .i64 n.kind) rfl
      have := block_lt_of_cell h0
      have hb : (a.add 0).block = a.block := by rw [Addr.add_zero']
      refine .inr fun e => ?_
      simp only [Value.ownBlock, Option.some.injEq] at e
      omega
theorem RN.set {w : World} {v : Value} {l : List Nd} (h : RN w v l) {k : Nat} (ha : Apart v l k) (i : Nat) (x : Value) : RN (w.setCell ⟨k, i, none⟩ x) v l := by
  rcases h with h | ⟨a, cap, rfl, h1, h2, hc⟩
  · exact .inl h
  · refine .inr ⟨a, cap, rfl, h1, h2, fun j u hj => ?_⟩
    have h0 := hc j u hj
    rcases ha with rfl | ha
    · simp [flat] at hj
    · have hb : (a.add j).block = a.block := by unfold Addr.add; split <;> rfl
      rw [World.cell?_of_block (heap_setCell_other _ _ _ _ (by rw [hb]; intro e; exact ha (by simp [Value.ownBlock, e])))]
      exact h0
/-- What lay answers. -/
def LayAns (v0 : Value) (ns : List Nd) (r : List Nd × Int) (w : World) (e : Ending) (w' : World) : Prop := ∃ v, e = .returned (.tuple #[v, .int .i64 r.2]) ∧ RN w' v r.1 ∧ Below w.heap.size w w' ∧ ∀ k, k < w.heap.size → Apart v0 ns k → Apart v r.1 k
def LayC (f : Nat) : Prop := ∀ (l : List Pr) (ns : List Nd) (v0 v1 : Value) (w : World), RN w v0 ns → RP w v1 l → (∀ p ∈ l, p.1.length < f) → l.length ≤ 1000 → ns.length + f * l.length ≤ 500000 →
  Calls Try.prog 43 #[v0, v1] w (LayAns v0 ns (layF f l ns) w)

set_option maxHeartbeats 8000000 in
theorem rlay_leaf (p0 : Pr) (ns : List Nd) (v0 v1 : Value) (w : World) (h0 : RN w v0 ns) (h1 : RP w v1 [p0]) (hz : p0.1.length ≤ 1000) (hn : ns.length ≤ 600000) :
    Calls Try.prog 43 #[v0, v1] w (LayAns v0 ns (ns ++ [leafN p0], (ns.length : Int)) w) := by
  have KK := Lib.hid (rkids_none w)
  have KC := Lib.hid (fun W (hb : Below w.heap.size w W) => rcommon_any v1 p0 [] W (RP.below h1 hb (Nat.le_refl _)) (by simp) (fun p hp => by simp only [List.mem_singleton] at hp; subst hp; omega))
  obtain ⟨pa, ca, rfl, a1, a2⟩ := RowE.shape encN h0
  obtain ⟨pb, cb, rfl, b1, b2⟩ := RowE.shape encP h1
  simp only [List.length_singleton] at *
  have H0 := Lib.hid h0
  have H1 := Lib.hid h1
  clear h0 h1
  unfold maxLen at a2 b2
  generalize commonL [p0] = cm at *
  go_enter Try.func43, Try.ntmps43
  go_upto_region 4 with (first
    | (go_at_call 79; (with_reducible refine KK.out.mono ?_); rintro e w1 ⟨rfl, hb⟩; have HB := Lib.hid hb; clear hb KK; unfold noK)
    | (refine wpList_store_nd rfl _ _ rfl w1.heap.size zN rfl rfl _ (RowAt.new w1 _ _) rfl ?_; intro w2 hr2 hb2 ho2 hs2; have R := Lib.hid hr2; have HB2 := Lib.hid (hb2 _ _ (HB.out.alloc HB.out.size _) HB.out.size); have HK := Lib.hid HB.out.size; clear hr2 hb2 ho2 hs2))
  generalize w1.heap.size = k1 at *
  clear HB
  go_upto_region 5 with (go_at_call 80; (with_reducible refine (KC.out w2 HB2.out).mono ?_); rintro e w3 ⟨rfl, hb⟩; (replace R := Lib.hid (R.out.belowS hb); replace HB2 := Lib.hid (HB2.out.trans (hb.mono HB2.out.size)); clear hb); clear KC)
  obtain ⟨c0, c1, c2, f0, f1, f2⟩ := R.out.nd
  go_upto_region 7 with (fail)
  have R1 := Lib.hid (R.out.ndKind 1)
  have HB3 := Lib.hid (HB2.out.setCell (p := ⟨k1, 0, none⟩) HK.out (.int .i64 1))
  clear c0 c1 c2 f0 f1 f2 R HB2
  generalize w3.setCell ⟨k1, 0, none⟩ (.int .i64 1) = w4 at *
  obtain ⟨c0, c1, c2, f0, f1, f2⟩ := R1.out.nd
  obtain ⟨a, rfl, d0, d1⟩ := RP.at (RP.below H1.out HB3.out (Nat.le_refl _)) (i := 0) rfl
  rw [Nat.zero_mul, Addr.add_zero'] at d0 d1
  go_upto_region 8 with (fail)
  have R2 := Lib.hid (R1.out.ndPart p0.1)
  have HB4 := Lib.hid (HB3.out.setCell (p := ⟨k1, 1, none⟩) HK.out (.string (mkS p0.1)))
  clear c0 c1 c2 f0 f1 f2 R1 HB3 d0 d1
  generalize w4.setCell ⟨k1, 1, none⟩ (.string (mkS p0.1)) = w5 at *
  obtain ⟨c0, c1, c2, f0, f1, f2⟩ := R2.out.nd
  obtain ⟨a', e', d0, d1⟩ := RP.at (RP.below H1.out HB4.out (Nat.le_refl _)) (i := 0) rfl
  obtain rfl := Option.some.inj e'
  clear e'
  rw [Nat.zero_mul, Addr.add_zero'] at d0 d1
  go_upto_region 24 with (fail)
  have R3 := Lib.hid (show RowAt _ k1 (ndc (leafN p0)) 88 from R2.out.ndValue p0.2)
  have HB5 := Lib.hid (HB4.out.setCell (p := ⟨k1, 2, none⟩) HK.out (.string (mkS p0.2)))
  clear c0 c1 c2 f0 f1 f2 R2 HB4 d0 d1
  generalize w5.setCell ⟨k1, 2, none⟩ (.string (mkS p0.2)) = w6 at *
  have HN0 := Lib.hid (RN.below H0.out HB5.out (Nat.le_refl _))
  have O0 := Lib.hid (show ON (w6.alloc (.cells #[] 88)) w6.heap.size (.slice (some ⟨w6.heap.size, 0, none⟩) 0 0) [] from OwnE.start encN (Nat.le_refl _))
  have R4 := Lib.hid (R3.out.alloc (.cells #[] 88))
  have HB6 := Lib.hid (HB5.out.alloc HB5.out.size (.cells #[] 88))
  have HK6 := Lib.hid R3.out.lt
  have HN := Lib.hid (HN0.out.below ((Below.refl w6.heap.size w6).alloc (Nat.le_refl _) (.cells #[] 88)) (Nat.le_refl _))
  have HZ7 := Lib.hid (show w6.heap.size ≤ (w6.alloc (.cells #[] 88)).heap.size by simp)
  have HZ6 := Lib.hid HB5.out.size
  clear R3 HB5 HN0
  go_upto_region 25 with (fail)
  generalize w6.alloc (.cells #[] 88) = w7 at *
  generalize w6.heap.size = b6 at *
  go_upto_region 26 with (at_builtin; refine wpList_append_nd rfl _ _ rfl b6 _ [] rfl O0.out _ ns rfl HN.out (by simp; omega) HZ7.out ?_)
  intro v8 w8 ho8 hb8 hz8 hg8
  have O8 := Lib.hid (show ON w8 b6 v8 ns from ho8)
  have R5 := Lib.hid (R4.out.grown hg8 (by have := HK6.out; simp [Value.ownBlock]; omega))
  have HB8 := Lib.hid (HB6.out.trans ((hb8 w7 (Below.refl _ _)).mono HZ6.out))
  have HZ8 := Lib.hid (Nat.le_trans HZ7.out hz8)
  clear ho8 hb8 hz8 hg8 O0 R4 HB6 HN HZ7
  go_upto_region 27 with (first
    | (refine wpList_load_nd rfl _ rfl _ (leafN p0) rfl (NdAt.ofRow R5.out) ?_)
    | (refine wpList_one_nd rfl _ rfl (leafN p0) rfl ?_)
    | (at_builtin; refine wpList_append_nd rfl _ _ rfl b6 _ ns rfl (O8.out.below ((Below.refl w8.heap.size w8).alloc (Nat.le_refl _) _) (Nat.le_refl _)) _ [leafN p0] rfl (RowE.lit encN (heap_alloc_new _ _) (leafN p0) rfl) (by simp; omega) (by have := HZ8.out; simp; omega) ?_))
  intro v9 w9 ho9 hb9 hz9 hg9
  have O9 := Lib.hid (OwnE.row encN ho9)
  have HB9 := Lib.hid (HB8.out.trans ((hb9 w8 ((Below.refl _ _).alloc HZ8.out _)).mono HZ6.out))
  have HA9 := Lib.hid (fun (b : Nat) (hb : b < w.heap.size) => show Apart v9 (ns ++ [leafN p0]) b from .inr fun e => by have := (World.ownsRow.lt ho9 b e).1; have := HZ6.out; omega)
  clear ho9 hb9 hz9 hg9 O8 R5 HB8
  obtain ⟨pz, cz, rfl, z1, z2⟩ := RowE.shape encN O9.out
  simp only [List.length_append, List.length_singleton] at *
  unfold maxLen at z2
  go_wp2
  refine bodyPost_ret (v := .tuple #[.slice pz (ns.length + 1) cz, .int .i64 ns.length]) (by simp [results, Try.results43, go_sem]) rfl ?_
  exact ⟨_, rfl, O9.out, HB9.out, fun b hb _ => HA9.out b hb⟩

set_option maxHeartbeats 8000000 in
theorem rlay_joint (p0 : Pr) (t : List Pr) (ns xs : List Nd) (k : Nat) (ix : Int) (v0 v1 : Value) (w : World) (hk : k = commonL (p0 :: t)) (hpos : 0 < k) (ht : 1 ≤ t.length) (h0 : RN w v0 ns) (h1 : RP w v1 (p0 :: t)) (hz : ∀ p ∈ p0 :: t, p.1.length ≤ 1000) (hl : (p0 :: t).length ≤ 1000) (hn : xs.length ≤ 600000)
    (KL : ∀ W v0 v1, RN W v0 ns → RP W v1 (cutK k (p0 :: t)) → Calls Try.prog 43 #[v0, v1] W (LayAns v0 ns (xs, ix) W)) :
    Calls Try.prog 43 #[v0, v1] w (LayAns v0 ns (xs ++ [jointN (p0.1.take k) ix], (xs.length : Int)) w) := by
  have KK := Lib.hid (rkids_none w)
  have KC := Lib.hid (fun W (hb : Below w.heap.size w W) => rcommon_any v1 p0 t W (RP.below h1 hb (Nat.le_refl _)) (by omega) (fun p hp => by have := hz p hp; omega))
  have hk0 : k ≤ p0.1.length := by rw [hk]; exact commonL_le.1
  have hk1 : k ≤ 1000 := by have := hz p0 List.mem_cons_self; omega
  have ec : cutP 16 k (p0 :: t) = cutK k (p0 :: t) := by unfold cutP; rw [selC_all]
  have KT := Lib.hid (fun W (hb : Below w.heap.size w W) => rcut_any 16 k v1 (p0 :: t) W (RP.below h1 hb (Nat.le_refl _)) (by omega) (by omega) (by omega) (fun p hp _ => by rw [hk]; exact (common_take p hp).2) (fun p hp => by have := hz p hp; omega))
  rw [ec, show ((16 : Nat) : Int) = 16 from rfl] at KT
  rw [← hk] at KC
  replace KL := Lib.hid KL
  obtain ⟨pa, ca, rfl, a1, a2⟩ := RowE.shape encN h0
  obtain ⟨pb, cb, rfl, b1, b2⟩ := RowE.shape encP h1
  have hg2 := hl
  have hg1 : ¬ ((p0 :: t).length : Int) = 1 := by rw [List.length_cons]; omega
  have hg3 : ¬ ((p0 :: t).length : Int) = 0 := by rw [List.length_cons]; omega
  have hg4 : 1 ≤ (p0 :: t).length := by rw [List.length_cons]; omega
  have H0 := Lib.hid h0
  have H1 := Lib.hid h1
  have hkk := Lib.hid (show (0 : Int) < k by omega)
  have hsz := mk_size p0.1
  have htk := mkS_take p0.1 k
  have hx0 : (p0 :: t)[0]? = some p0 := rfl
  clear h0 h1 hk ec hz hl ht
  generalize p0 :: t = l at *
  generalize cutK k l = l2 at *
  unfold maxLen at a2 b2
  generalize hln : l.length = ln at *
  clear hln
  go_enter Try.func43, Try.ntmps43
  go_upto_region 4 with (first
    | (go_at_call 79; (with_reducible refine KK.out.mono ?_); rintro e w1 ⟨rfl, hb⟩; have HB := Lib.hid hb; clear hb KK; unfold noK)
    | (refine wpList_store_nd rfl _ _ rfl w1.heap.size zN rfl rfl _ (RowAt.new w1 _ _) rfl ?_; intro w2 hr2 hb2 ho2 hs2; have R := Lib.hid hr2; have HB2 := Lib.hid (hb2 _ _ (HB.out.alloc HB.out.size _) HB.out.size); have HK := Lib.hid HB.out.size; clear hr2 hb2 ho2 hs2))
  generalize w1.heap.size = k1 at *
  clear HB
  go_upto_region 5 with (go_at_call 80; (with_reducible refine (KC.out w2 HB2.out).mono ?_); rintro e w3 ⟨rfl, hb⟩; (replace R := Lib.hid (R.out.belowS hb); replace HB2 := Lib.hid (HB2.out.trans (hb.mono HB2.out.size)); clear hb); clear KC)
  obtain ⟨c0, c1, c2, f0, f1, f2⟩ := R.out.nd
  go_upto_region 11 with (fail)
  have R1 := Lib.hid (R.out.ndKind 2)
  have HB3 := Lib.hid (HB2.out.setCell (p := ⟨k1, 0, none⟩) HK.out (.int .i64 2))
  clear c0 c1 c2 f0 f1 f2 R HB2
  generalize w3.setCell ⟨k1, 0, none⟩ (.int .i64 2) = w4 at *
  obtain ⟨c0, c1, c2, f0, f1, f2⟩ := R1.out.nd
  obtain ⟨a, rfl, d0, d1⟩ := RP.at (RP.below H1.out HB3.out (Nat.le_refl _)) hx0
  rw [Nat.zero_mul, Addr.add_zero'] at d0 d1
  go_upto_region 12 with (fail)
  have R2 := Lib.hid (R1.out.ndPart (p0.1.take k))
  have HB4 := Lib.hid (HB3.out.setCell (p := ⟨k1, 1, none⟩) HK.out (.string (mkS (p0.1.take k))))
  clear c0 c1 c2 f0 f1 f2 R1 HB3 d0 d1
  generalize w4.setCell ⟨k1, 1, none⟩ (.string (mkS (p0.1.take k))) = w5 at *
  go_upto_region 14 with (first
    | (go_at_call 81; (with_reducible refine (KT.out w5 HB4.out).mono ?_); rintro e w6 ⟨v6, rfl, hr, hb⟩; have H6 := Lib.hid hr; clear hr; (replace R2 := Lib.hid (R2.out.belowS hb); replace HB4 := Lib.hid (HB4.out.trans (hb.mono HB4.out.size)); clear hb))
    | (go_at_call 43; (with_reducible refine (KL.out w6 _ v6 (RN.below H0.out HB4.out (Nat.le_refl _)) H6.out).mono ?_); rintro e w7 ⟨v7, rfl, hr, hb, hap⟩; have H7 := Lib.hid hr; have HA7 := Lib.hid (hap k1 R2.out.lt (RN.apart H0.out HK.out)); clear hr hap H6; (replace R2 := Lib.hid (R2.out.belowS hb); replace HB4 := Lib.hid (HB4.out.trans (hb.mono HB4.out.size)); clear hb)))
  obtain ⟨c3, f3⟩ : w7.cell? ⟨k1, 3, none⟩ = some (kidV ⟨2, p0.1.take k, zN.value, zN.kids⟩ 0) ∧ w7.frozen? ⟨k1, 3, none⟩ = false := R2.out.ndK 0 (by omega)
  go_upto_region 24 with (fail)
  have R3 := Lib.hid (show RowAt _ k1 (ndc (jointN (p0.1.take k) ix)) 88 from R2.out.ndKid rfl 0 (by omega) ix)
  have HB5 := Lib.hid (HB4.out.setCell (p := ⟨k1, 3, none⟩) HK.out (.int .i64 ix))
  have HN0 := Lib.hid (H7.out.set HA7.out 3 (.int .i64 ix))
  clear c3 f3 R2 HB4 H7 HA7
  generalize w7.setCell ⟨k1, 3, none⟩ (.int .i64 ix) = w6 at *
  have O0 := Lib.hid (show ON (w6.alloc (.cells #[] 88)) w6.heap.size (.slice (some ⟨w6.heap.size, 0, none⟩) 0 0) [] from OwnE.start encN (Nat.le_refl _))
  have R4 := Lib.hid (R3.out.alloc (.cells #[] 88))
  have HB6 := Lib.hid (HB5.out.alloc HB5.out.size (.cells #[] 88))
  have HK6 := Lib.hid R3.out.lt
  have HN := Lib.hid (HN0.out.below ((Below.refl w6.heap.size w6).alloc (Nat.le_refl _) (.cells #[] 88)) (Nat.le_refl _))
  have HZ7 := Lib.hid (show w6.heap.size ≤ (w6.alloc (.cells #[] 88)).heap.size by simp)
  have HZ6 := Lib.hid HB5.out.size
  clear R3 HB5 HN0
  go_upto_region 25 with (fail)
  generalize w6.alloc (.cells #[] 88) = w7 at *
  generalize w6.heap.size = b6 at *
  go_upto_region 26 with (at_builtin; refine wpList_append_nd rfl _ _ rfl b6 _ [] rfl O0.out _ xs rfl HN.out (by simp; omega) HZ7.out ?_)
  intro v8 w8 ho8 hb8 hz8 hg8
  have O8 := Lib.hid (show ON w8 b6 v8 xs from ho8)
  have R5 := Lib.hid (R4.out.grown hg8 (by have := HK6.out; simp [Value.ownBlock]; omega))
  have HB8 := Lib.hid (HB6.out.trans ((hb8 w7 (Below.refl _ _)).mono HZ6.out))
  have HZ8 := Lib.hid (Nat.le_trans HZ7.out hz8)
  clear ho8 hb8 hz8 hg8 O0 R4 HB6 HN HZ7
  go_upto_region 27 with (first
    | (refine wpList_load_nd rfl _ rfl _ (jointN (p0.1.take k) ix) rfl (NdAt.ofRow R5.out) ?_)
    | (refine wpList_one_nd rfl _ rfl (jointN (p0.1.take k) ix) rfl ?_)
    | (at_builtin; refine wpList_append_nd rfl _ _ rfl b6 _ xs rfl (O8.out.below ((Below.refl w8.heap.size w8).alloc (Nat.le_refl _) _) (Nat.le_refl _)) _ [jointN (p0.1.take k) ix] rfl (RowE.lit encN (heap_alloc_new _ _) (jointN (p0.1.take k) ix) rfl) (by simp; omega) (by have := HZ8.out; simp; omega) ?_))
  intro v9 w9 ho9 hb9 hz9 hg9
  have O9 := Lib.hid (OwnE.row encN ho9)
  have HB9 := Lib.hid (HB8.out.trans ((hb9 w8 ((Below.refl _ _).alloc HZ8.out _)).mono HZ6.out))
  have HA9 := Lib.hid (fun (b : Nat) (hb : b < w.heap.size) => show Apart v9 (xs ++ [jointN (p0.1.take k) ix]) b from .inr fun e => by have := (World.ownsRow.lt ho9 b e).1; have := HZ6.out; omega)
  clear ho9 hb9 hz9 hg9 O8 R5 HB8
  obtain ⟨pz, cz, rfl, z1, z2⟩ := RowE.shape encN O9.out
  simp only [List.length_append, List.length_singleton] at *
  unfold maxLen at z2
  go_wp2
  refine bodyPost_ret (v := .tuple #[.slice pz (xs.length + 1) cz, .int .i64 xs.length]) (by simp [results, Try.results43, go_sem]) rfl ?_
  exact ⟨_, rfl, O9.out, HB9.out, fun b hb _ => HA9.out b hb⟩

theorem kids_set (IX : Nat → Int) (c : Nat) (hc : c < 16) : ((List.range c).map IX ++ List.replicate (16 - c) (-1)).set c (IX c) = (List.range (c + 1)).map IX ++ List.replicate (16 - (c + 1)) (-1) := by
  have hl : ((List.range c).map IX).length = c := by simp
  rw [List.set_append_right _ _ (by rw [hl]; exact Nat.le_refl _), hl, Nat.sub_self, show 16 - c = (16 - (c + 1)) + 1 by omega, List.replicate_succ, List.set_cons_zero, List.range_succ, List.map_append, List.append_assoc]
  rfl
theorem kids_len (IX : Nat → Int) (c : Nat) (hc : c ≤ 16) : ((List.range c).map IX ++ List.replicate (16 - c) (-1)).length = 16 := by simp; omega
set_option maxHeartbeats 8000000 in
theorem rlay_branch (p0 : Pr) (t : List Pr) (NS : Nat → List Nd) (IX : Nat → Int) (v0 v1 : Value) (w : World) (hk : commonL (p0 :: t) = 0) (ht : 1 ≤ t.length) (h0 : RN w v0 (NS 0)) (h1 : RP w v1 (p0 :: t)) (hz : ∀ p ∈ p0 :: t, p.1.length ≤ 1000) (hl : (p0 :: t).length ≤ 1000) (hn : (NS 16).length ≤ 600000)
    (KL : ∀ c, c < 16 → ∀ W v0 v1, RN W v0 (NS c) → RP W v1 (cutC c (p0 :: t)) → Calls Try.prog 43 #[v0, v1] W (LayAns v0 (NS c) (NS (c + 1), IX c) W)) :
    Calls Try.prog 43 #[v0, v1] w (LayAns v0 (NS 0) (NS 16 ++ [branchN (valE (p0 :: t)) ((List.range 16).map IX)], ((NS 16).length : Int)) w) := by
  have KK := Lib.hid (rkids_none w)
  have KC := Lib.hid (fun W (hb : Below w.heap.size w W) => rcommon_any v1 p0 t W (RP.below h1 hb (Nat.le_refl _)) (by omega) (fun p hp => by have := hz p hp; omega))
  have KG := Lib.hid (fun W (hb : Below w.heap.size w W) => rget_any [] v1 (p0 :: t) W (RP.below h1 hb (Nat.le_refl _)))
  have KT := Lib.hid (fun (c : Nat) (hc : c < 16) W (hb : Below w.heap.size w W) => show Calls Try.prog 81 #[v1, .int .i64 c, .int .i64 1] W fun e w' => ∃ v', e = .returned v' ∧ RP w' v' (cutC c (p0 :: t)) ∧ Below W.heap.size W w' by
    have := rcut_any c 1 v1 (p0 :: t) W (RP.below h1 hb (Nat.le_refl _)) (by omega) (by omega) (by omega) (fun p hp hs => by
      unfold selC at hs
      rw [decide_eq_false (by omega), Bool.false_or] at hs
      obtain ⟨x, r, e, _⟩ := hasC_some hs
      rw [e]; simp) (fun p hp => by have := hz p hp; omega)
    have e : cutP c 1 (p0 :: t) = cutC c (p0 :: t) := by unfold cutP cutC; rw [selC_some (by omega)]
    rw [e] at this
    exact this)
  rw [getL_nil] at KG
  rw [hk] at KC
  replace KG : Hid (∀ W, Below w.heap.size w W → Calls Try.prog 34 #[v1, .string ⟨#[]⟩] W fun e w' => e = .returned (.tuple #[.string (mkS (valE (p0 :: t))), .bool (getL [] (p0 :: t)).isSome]) ∧ Below W.heap.size W w') := KG
  replace KL := Lib.hid KL
  obtain ⟨pa, ca, rfl, a1, a2⟩ := RowE.shape encN h0
  obtain ⟨pb, cb, rfl, b1, b2⟩ := RowE.shape encP h1
  have hg2 := hl
  have hg1 : ¬ ((p0 :: t).length : Int) = 1 := by rw [List.length_cons]; omega
  have hg3 : ¬ ((p0 :: t).length : Int) = 0 := by rw [List.length_cons]; omega
  have H0 := Lib.hid h0
  have H1 := Lib.hid h1
  clear h0 h1 hk hz hl ht
  generalize valE (p0 :: t) = vl at *
  generalize (getL [] (p0 :: t)).isSome = bg at *
  generalize p0 :: t = l at *
  unfold maxLen at a2 b2
  generalize hln : l.length = ln at *
  clear hln
  generalize hns : NS 0 = ns at *
  go_enter Try.func43, Try.ntmps43
  go_upto_region 4 with (first
    | (go_at_call 79; (with_reducible refine KK.out.mono ?_); rintro e w1 ⟨rfl, hb⟩; have HB := Lib.hid hb; clear hb KK; unfold noK)
    | (refine wpList_store_nd rfl _ _ rfl w1.heap.size zN rfl rfl _ (RowAt.new w1 _ _) rfl ?_; intro w2 hr2 hb2 ho2 hs2; have R := Lib.hid hr2; have HB2 := Lib.hid (hb2 _ _ (HB.out.alloc HB.out.size _) HB.out.size); have HK := Lib.hid HB.out.size; clear hr2 hb2 ho2 hs2))
  generalize w1.heap.size = k1 at *
  clear HB
  go_upto_region 5 with (go_at_call 80; (with_reducible refine (KC.out w2 HB2.out).mono ?_); rintro e w3 ⟨rfl, hb⟩; (replace R := Lib.hid (R.out.belowS hb); replace HB2 := Lib.hid (HB2.out.trans (hb.mono HB2.out.size)); clear hb); clear KC)
  obtain ⟨c0, c1, c2, f0, f1, f2⟩ := R.out.nd
  go_upto_region 16 with (fail)
  have R1 := Lib.hid (R.out.ndKind 3)
  have HB3 := Lib.hid (HB2.out.setCell (p := ⟨k1, 0, none⟩) HK.out (.int .i64 3))
  clear c0 c1 c2 f0 f1 f2 R HB2
  generalize w3.setCell ⟨k1, 0, none⟩ (.int .i64 3) = w4 at *
  obtain ⟨c0, c1, c2, f0, f1, f2⟩ := R1.out.nd
  clear c0 c1 c2 f0 f1 f2
  go_upto_region 17 with (go_at_call 34; (with_reducible refine (KG.out w4 HB3.out).mono ?_); rintro e w5 ⟨rfl, hb⟩; (replace R1 := Lib.hid (R1.out.belowS hb); replace HB3 := Lib.hid (HB3.out.trans (hb.mono HB3.out.size)); clear hb); clear KG)
  obtain ⟨c0, c1, c2, f0, f1, f2⟩ := R1.out.nd
  go_upto_region 19 with (fail)
  have R2 := Lib.hid (show RowAt _ k1 (ndc ⟨3, [], vl, (List.range 0).map IX ++ List.replicate (16 - 0) (-1)⟩) 88 from R1.out.ndValue vl)
  have HB4 := Lib.hid (HB3.out.setCell (p := ⟨k1, 2, none⟩) HK.out (.string (mkS vl)))
  clear c0 c1 c2 f0 f1 f2 R1 HB3
  generalize w5.setCell ⟨k1, 2, none⟩ (.string (mkS vl)) = w6 at *
  have HN6 := Lib.hid (show RN w6 (.slice pa ns.length ca) (NS 0) by rw [hns]; exact RN.below H0.out HB4.out (Nat.le_refl _))
  have HA6 := Lib.hid (show Apart (.slice pa ns.length ca) (NS 0) k1 by rw [hns]; exact RN.apart H0.out HK.out)
  go_loopw [0, 12] (fun s0 s12 wr => ∃ c : Nat, c ≤ 16 ∧ s12 = .int .i64 c ∧ Hid (RN wr s0 (NS c)) ∧ Hid (Apart s0 (NS c) k1) ∧ Hid (RowAt wr k1 (ndc ⟨3, [], vl, (List.range c).map IX ++ List.replicate (16 - c) (-1)⟩) 88) ∧ Hid (Below w.heap.size w wr)) (fun _ s _ => 16 - (intOf s).toNat)
  case atStart => exact ⟨0, Nat.zero_le _, rfl, HN6, HA6, R2, HB4⟩
  case round =>
    clear HN6 HA6 R2 HB4
    obtain ⟨c, hc, rfl, hn1, ha1, hr1, hb1⟩ := hrel
    have HN := Lib.hid hn1.out
    have HA := Lib.hid ha1.out
    have R := Lib.hid hr1.out
    have HB := Lib.hid hb1.out
    clear hn1 ha1 hr1 hb1
    by_cases hlt : c < 16
    · have KT1 := Lib.hid (KT.out c hlt)
      have KL1 := Lib.hid (KL.out c hlt)
      have hse := kids_set IX c hlt
      go_upto_region 23 with (first
        | (go_at_call 81; (with_reducible refine (KT1.out wr HB.out).mono ?_); rintro e w6 ⟨v6, rfl, hr, hb⟩; have H6 := Lib.hid hr; clear hr; (replace R := Lib.hid (R.out.belowS hb); replace HN := Lib.hid (HN.out.below hb (Nat.le_refl _)); replace HB := Lib.hid (HB.out.trans (hb.mono HB.out.size)); clear hb))
        | (go_at_call 43; (with_reducible refine (KL1.out w6 _ v6 HN.out H6.out).mono ?_); rintro e w7 ⟨v7, rfl, hr, hb, hap⟩; have H7 := Lib.hid hr; have HA7 := Lib.hid (hap k1 R.out.lt HA.out); clear hr hap H6 HN HA; (replace R := Lib.hid (R.out.belowS hb); replace HB := Lib.hid (HB.out.trans (hb.mono HB.out.size)); clear hb)))
      obtain ⟨c3, f3⟩ := R.out.ndK c hlt
      have R3 := Lib.hid (show RowAt (w7.setCell ⟨k1, 3 + c, none⟩ (.int .i64 (IX c))) k1 (ndc ⟨3, [], vl, (List.range (c + 1)).map IX ++ List.replicate (16 - (c + 1)) (-1)⟩) 88 from by
        have := R.out.ndKid (kids_len IX c (by omega)) c hlt (IX c)
        simp only [hse] at this
        exact this)
      have HB5 := Lib.hid (HB.out.setCell (p := ⟨k1, 3 + c, none⟩) HK.out (.int .i64 (IX c)))
      have H8 := Lib.hid (H7.out.set HA7.out (3 + c) (.int .i64 (IX c)))
      clear H7 R HB KT1 KL1 hse
      go_wp2
      exact ⟨⟨c + 1, by omega, by simp, H8, HA7, R3, HB5⟩, by simp [intOf]; omega⟩
    · obtain rfl : c = 16 := by omega
      have HN0 := HN
      have R3 := Lib.hid (show RowAt wr k1 (ndc (branchN vl ((List.range 16).map IX))) 88 from by
        have := R.out
        rw [show 16 - 16 = 0 from rfl, List.replicate_zero, List.append_nil] at this
        exact this)
      have HB5 := HB
      clear HN HA R HB KT KL
      generalize NS 16 = xs at *
      generalize (List.range 16).map IX = ks at *
      generalize wr = w6 at *
      go_upto_region 24 with (fail)
      have O0 := Lib.hid (show ON (w6.alloc (.cells #[] 88)) w6.heap.size (.slice (some ⟨w6.heap.size, 0, none⟩) 0 0) [] from OwnE.start encN (Nat.le_refl _))
      have R4 := Lib.hid (R3.out.alloc (.cells #[] 88))
      have HB6 := Lib.hid (HB5.out.alloc HB5.out.size (.cells #[] 88))
      have HK6 := Lib.hid R3.out.lt
      have HN := Lib.hid (HN0.out.below ((Below.refl w6.heap.size w6).alloc (Nat.le_refl _) (.cells #[] 88)) (Nat.le_refl _))
      have HZ7 := Lib.hid (show w6.heap.size ≤ (w6.alloc (.cells #[] 88)).heap.size by simp)
      have HZ6 := Lib.hid HB5.out.size
      clear R3 HB5 HN0
      go_upto_region 25 with (fail)
      generalize w6.alloc (.cells #[] 88) = w7 at *
      generalize w6.heap.size = b6 at *
      go_upto_region 26 with (at_builtin; refine wpList_append_nd rfl _ _ rfl b6 _ [] rfl O0.out _ xs rfl HN.out (by simp; omega) HZ7.out ?_)
      intro v8 w8 ho8 hb8 hz8 hg8
      have O8 := Lib.hid (show ON w8 b6 v8 xs from ho8)
      have R5 := Lib.hid (R4.out.grown hg8 (by have := HK6.out; simp [Value.ownBlock]; omega))
      have HB8 := Lib.hid (HB6.out.trans ((hb8 w7 (Below.refl _ _)).mono HZ6.out))
      have HZ8 := Lib.hid (Nat.le_trans HZ7.out hz8)
      clear ho8 hb8 hz8 hg8 O0 R4 HB6 HN HZ7
      go_upto_region 27 with (first
        | (refine wpList_load_nd rfl _ rfl _ (branchN vl ks) rfl (NdAt.ofRow R5.out) ?_)
        | (refine wpList_one_nd rfl _ rfl (branchN vl ks) rfl ?_)
        | (at_builtin; refine wpList_append_nd rfl _ _ rfl b6 _ xs rfl (O8.out.below ((Below.refl w8.heap.size w8).alloc (Nat.le_refl _) _) (Nat.le_refl _)) _ [branchN vl ks] rfl (RowE.lit encN (heap_alloc_new _ _) (branchN vl ks) rfl) (by simp; omega) (by have := HZ8.out; simp; omega) ?_))
      intro v9 w9 ho9 hb9 hz9 hg9
      have O9 := Lib.hid (OwnE.row encN ho9)
      have HB9 := Lib.hid (HB8.out.trans ((hb9 w8 ((Below.refl _ _).alloc HZ8.out _)).mono HZ6.out))
      have HA9 := Lib.hid (fun (b : Nat) (hb : b < w.heap.size) => show Apart v9 (xs ++ [branchN vl ks]) b from .inr fun e => by have := (World.ownsRow.lt ho9 b e).1; have := HZ6.out; omega)
      clear ho9 hb9 hz9 hg9 O8 R5 HB8
      obtain ⟨pz, cz, rfl, z1, z2⟩ := RowE.shape encN O9.out
      simp only [List.length_append, List.length_singleton] at *
      unfold maxLen at z2
      go_wp2
      refine bodyPost_ret (v := .tuple #[.slice pz (xs.length + 1) cz, .int .i64 xs.length]) (by simp [results, Try.results43, go_sem]) rfl ?_
      exact ⟨_, rfl, O9.out, HB9.out, fun b hb _ => HA9.out b hb⟩


theorem rlay_nil (v0 v1 : Value) (ns : List Nd) (w : World) (h0 : RN w v0 ns) (h1 : RP w v1 []) : Calls Try.prog 43 #[v0, v1] w (LayAns v0 ns (ns, -1) w) := by
  obtain ⟨pa, ca, rfl, a1, a2⟩ := RowE.shape encN h0
  obtain ⟨pb, cb, rfl, b1, b2⟩ := RowE.shape encP h1
  have H0 := Lib.hid h0
  clear h0 h1
  unfold maxLen at a2 b2
  simp only [List.length_nil] at *
  go_enter Try.func43, Try.ntmps43
  go_wp2
  refine bodyPost_ret (v := .tuple #[.slice pa ns.length ca, .int .i64 (-1)]) (by simp [results, Try.results43, go_sem]) rfl ?_
  exact ⟨_, rfl, H0.out, Below.refl _ _, fun k _ h => h⟩

theorem cutC_small {f c : Nat} {l : List Pr} (hl : ∀ p ∈ l, p.1.length < f + 1) : ∀ p ∈ cutC c l, p.1.length < f := by
  intro p hp
  unfold cutC cutK at hp
  obtain ⟨q, hq, rfl⟩ := List.mem_map.1 hp
  obtain ⟨hm, hs⟩ := List.mem_filter.1 hq
  obtain ⟨x, r, e, _⟩ := hasC_some hs
  have := hl q hm
  rw [e] at this
  rw [e]
  simp at this ⊢
  omega
theorem kidsF_range (f : Nat) (l : List Pr) (ns : List Nd) (c : Nat) : kidsF f l (List.range (c + 1)) (ns, []) = ((layF f (cutC c l) (kidsF f l (List.range c) (ns, [])).1).1, (kidsF f l (List.range c) (ns, [])).2 ++ [(layF f (cutC c l) (kidsF f l (List.range c) (ns, [])).1).2]) := by
  unfold kidsF
  rw [List.range_succ, List.foldl_append]
  rfl
theorem kidsF_map (f : Nat) (l : List Pr) (ns : List Nd) : ∀ n, (kidsF f l (List.range n) (ns, [])).2 = (List.range n).map fun c => (layF f (cutC c l) (kidsF f l (List.range c) (ns, [])).1).2
  | 0 => rfl
  | n + 1 => by rw [kidsF_range, List.range_succ, List.map_append, kidsF_map f l ns n]; rfl
theorem kidsF_len (f : Nat) (l : List Pr) (ns : List Nd) : ∀ n, (kidsF f l (List.range n) (ns, [])).1.length ≤ ns.length + f * ((List.range n).map fun c => (cutC c l).length).sum
  | 0 => by simp [kidsF]
  | n + 1 => by
    rw [kidsF_range, List.range_succ, List.map_append, List.sum_append]
    have h1 := kidsF_len f l ns n
    have h2 := layF_len f (cutC n l) (kidsF f l (List.range n) (ns, [])).1
    simp only [List.map_cons, List.map_nil, List.sum_cons, List.sum_nil, Nat.add_zero, Nat.mul_add]
    omega
theorem cutC_sum (l : List Pr) (n : Nat) : ((List.range n).map fun c => (cutC c l).length).sum ≤ l.length := by
  have h17 := filter_sum headN (n + 1) l
  rw [List.range_succ_eq_map, List.map_cons, List.sum_cons, List.map_map] at h17
  have e2 : (List.range n).map (fun c => (cutC c l).length) = (List.range n).map ((fun c => (l.filter (fun a => headN a == c)).length) ∘ Nat.succ) := List.map_congr_left fun c _ => cutC_len c _
  rw [e2]
  omega
theorem rlay_all : ∀ f : Nat, f ≤ 1000 → LayC f
  | 0, _ => fun l ns v0 v1 w h0 h1 hf _ _ => by
    cases l with
    | nil => exact rlay_nil v0 v1 ns w h0 h1
    | cons p l => exact absurd (hf p List.mem_cons_self) (by omega)
  | f + 1, hf1 => fun l ns v0 v1 w h0 h1 hf hl hn => by
    have ih := rlay_all f (by omega)
    match l, h1, hf, hl, hn with
    | [], h1, _, _, _ => exact rlay_nil v0 v1 ns w h0 h1
    | [p], h1, hf, hl, hn =>
      rw [layF_one]
      exact rlay_leaf p ns v0 v1 w h0 h1 (by have := hf p List.mem_cons_self; omega) (by omega)
    | p :: q :: r, h1, hf, hl, hn =>
      by_cases hc : 0 < commonL (p :: q :: r)
      · rw [layF_joint hc]
        have hln : (cutK (commonL (p :: q :: r)) (p :: q :: r)).length = (p :: q :: r).length := List.length_map _
        have hle := layF_len f (cutK (commonL (p :: q :: r)) (p :: q :: r)) ns
        rw [hln] at hle
        rw [Nat.add_mul] at hn
        refine rlay_joint p (q :: r) ns _ (commonL (p :: q :: r)) _ v0 v1 w rfl hc (by simp) h0 h1 (fun x hx => by have := hf x hx; omega) hl (by omega) ?_
        intro W u0 u1 k0 k1
        refine ih _ ns u0 u1 W k0 k1 ?_ (by rw [hln]; exact hl) (by rw [hln]; omega)
        intro x hx
        obtain ⟨y, hy, rfl⟩ := List.mem_map.1 hx
        have h1 := hf y hy
        have h2 := (common_take y hy).2
        show (y.1.drop _).length < f
        rw [List.length_drop]
        omega
      · rw [layF_branch hc, kidsF_map]
        have hs := cutC_sum (p :: q :: r)
        have hkl := kidsF_len f (p :: q :: r) ns
        rw [Nat.add_mul] at hn
        have hall : ∀ c, f * ((List.range c).map fun c => (cutC c (p :: q :: r)).length).sum ≤ f * (p :: q :: r).length := fun c => Nat.mul_le_mul_left f (hs c)
        refine rlay_branch p (q :: r) (fun c => (kidsF f (p :: q :: r) (List.range c) (ns, [])).1) _ v0 v1 w (by omega) (by simp) h0 h1 (fun x hx => by have := hf x hx; omega) hl (by have := hkl 16; have := hall 16; omega) ?_
        intro c hc16 W u0 u1 k0 k1
        have hlc : (cutC c (p :: q :: r)).length ≤ (p :: q :: r).length := by rw [cutC_len]; exact List.length_filter_le _ _
        have h3 := hs (c + 1)
        rw [List.range_succ, List.map_append, List.sum_append] at h3
        simp only [List.map_cons, List.map_nil, List.sum_cons, List.sum_nil, Nat.add_zero] at h3
        have h4 := Nat.mul_le_mul_left f h3
        rw [Nat.mul_add] at h4
        have h5 := hkl c
        have := ih (cutC c (p :: q :: r)) (kidsF f (p :: q :: r) (List.range c) (ns, [])).1 u0 u1 W k0 k1 (cutC_small hf) (by omega) (by omega)
        rw [kidsF_range]
        exact this
end Go.Proofs.Ytefmlbckbhlgdaa
namespace Go.Proofs.Ytefmlbckbhlgdaa
open Go.RowKit
set_option maxRecDepth 100000
theorem RN.zero (w : World) (a : Addr) : RN w (.slice (some a) 0 0) [] := .inr ⟨a, 0, rfl, Nat.le_refl _, by unfold maxLen; omega, fun j u hj => by simp [flat] at hj⟩
set_option maxHeartbeats 4000000 in
theorem rOf_any (l : List Pr) (v : Value) (w : World) (h : RP w v l) (hl : l.length ≤ 1000) (hz : ∀ p ∈ l, p.1.length ≤ 64) :
    Calls Try.prog 18 #[v] w fun e w' => ∃ u, e = .returned (.agg #[u, .int .i64 (ofT l).2]) ∧ RN w' u (ofT l).1 ∧ Below w.heap.size w w' := by
  have hpl : (partsL l).length = l.length := List.length_map _
  have hpz : ∀ p ∈ partsL l, p.1.length < 200 := fun p hp => by
    obtain ⟨q, hq, rfl⟩ := List.mem_map.1 hp
    have := hz q hq
    show (ofL q.1).length < 200
    rw [ofL_length]; omega
  have KP := Lib.hid (fun W (hb : Below w.heap.size w W) => rparts_any v l W (RP.below h hb (Nat.le_refl _)) (by omega) (fun p hp => by have := hz p hp; omega))
  have KL := Lib.hid (fun W v0 v1 (h0 : RN W v0 []) (h1 : RP W v1 (partsL l)) => rlay_all 200 (by omega) (partsL l) [] v0 v1 W h0 h1 hpz (by omega) (by rw [hpl]; simp; omega))
  replace KL : Hid (∀ W v0 v1, RN W v0 [] → RP W v1 (partsL l) → Calls Try.prog 43 #[v0, v1] W (LayAns v0 [] (ofT l) W)) := KL
  generalize ofT l = tr at *
  obtain ⟨ns, ix⟩ := tr
  obtain ⟨pv, cv, rfl, z1, z2⟩ := RowE.shape encP h
  clear h hl hz hpl hpz
  have HB := Lib.hid (((Below.refl w.heap.size w).alloc (Nat.le_refl _) (.cells #[.slice none 0 0, .int .i64 0] 37)).alloc (by simp) (.cells #[] 88))
  have R := Lib.hid ((RowAt.new w #[.slice none 0 0, .int .i64 0] 37).alloc (.cells #[] 88))
  go_enter Try.func18, Try.ntmps18
  go_upto_region 2 with (first
    | (go_at_call 44; (with_reducible refine (KP.out _ HB.out).mono ?_); rintro e w2 ⟨v2, rfl, hr, hb⟩; have H2 := Lib.hid hr; clear hr KP; (replace R := Lib.hid (R.out.belowS hb); replace HB := Lib.hid (HB.out.trans (hb.mono HB.out.size)); clear hb))
    | (go_at_call 43; (with_reducible refine (KL.out w2 _ v2 (RN.zero _ _) H2.out).mono ?_); rintro e w3 ⟨v3, rfl, hr, hb, hap⟩; have H3 := Lib.hid hr; have HA := Lib.hid (hap w.heap.size R.out.lt (.inl rfl)); clear hr hap H2 KL; (replace R := Lib.hid (R.out.belowS hb); replace HB := Lib.hid (HB.out.trans (hb.mono HB.out.size)); clear hb)))
  obtain ⟨p3, c3, rfl, z3, z4⟩ := RowE.shape encN H3.out
  obtain ⟨y0, y1, yf0, yf1⟩ := R.out.c2
  have R1 := R.out.set 0 (.slice p3 ns.length c3) (cs' := #[.slice p3 ns.length c3, .int .i64 0]) rfl
  obtain ⟨m0, m1, -, -⟩ := (R1.set 1 (.int .i64 ix) (cs' := #[.slice p3 ns.length c3, .int .i64 ix]) rfl).c2
  clear R1
  have HB1 := Lib.hid ((HB.out.setCell (p := ⟨w.heap.size, 0, none⟩) (Nat.le_refl _) (.slice p3 ns.length c3)).setCell (p := ⟨w.heap.size, 1, none⟩) (Nat.le_refl _) (.int .i64 ix))
  have H4 := Lib.hid ((H3.out.set (HA.out) 0 (.slice p3 ns.length c3)).set HA.out 1 (.int .i64 ix))
  go_wp2
  refine bodyPost_ret (v := .agg #[.slice p3 ns.length c3, .int .i64 ix]) (by simp [results, Try.results18, go_sem, m0, m1]) rfl ?_
  exact ⟨_, rfl, H4.out, HB1.out⟩
end Go.Proofs.Ytefmlbckbhlgdaa
