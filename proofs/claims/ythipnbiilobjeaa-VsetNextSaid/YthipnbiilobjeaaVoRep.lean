/- Vote: validators and votes that come in. -/
import Derived.Test.YthipnbiilobjeaaVo18
import Derived.Deep.Slices
import Derived.Lib.SmallJoins
namespace Go.Proofs.Ythipnbiilobjeaa
open Go.RowKit Go.ChangeShapes Go.WideShapes Go.ChangeAt

theorem cB : Try.prog.cellsOf 92 = 3 := by kernel_rfl
theorem cSt : Try.prog.cellsOf 9 = 1 := by kernel_rfl
theorem cBo : Try.prog.cellsOf 4 = 1 := by kernel_rfl
theorem cSs : Try.prog.cellsOf 33 = 1 := by kernel_rfl
theorem cBs : Try.prog.cellsOf 43 = 1 := by kernel_rfl
theorem cSn : Try.prog.cellsOf 45 = 2 := by kernel_rfl

theorem bal_trod {H : Type} {enc : TypeId × Value → H} {w : World} {fuel : Nat} {cs : List Value} {x : DataW H × List MemPlace} (hlen : cs.length = 3) (h : DataW.trod enc Try.prog w 0 (fun _ => true) true fuel 92 cs = some x) :
    ∃ b : Bal, cs = [.string b.1, .string b.2.1, .bool b.2.2] := by
  match cs, hlen with
  | [c0, c1, c2], _ =>
    obtain ⟨xs, n, _, _, _, hl, hg⟩ := DataW.trod_struct Try.underlying92 h
    match xs, hl with
    | [y0, y1, y2], _ =>
      have g0 : DataW.trod enc Try.prog w 0 (fun _ => true) true n 9 (([c0, c1, c2].drop 0).take (Try.prog.cellsOf 9)) = some y0 := hg 0 _ rfl
      have g1 : DataW.trod enc Try.prog w 0 (fun _ => true) true n 9 (([c0, c1, c2].drop 1).take (Try.prog.cellsOf 9)) = some y1 := hg 1 _ rfl
      have g2 : DataW.trod enc Try.prog w 0 (fun _ => true) true n 4 (([c0, c1, c2].drop 2).take (Try.prog.cellsOf 4)) = some y2 := hg 2 _ rfl
      rw [cSt] at g0 g1
      rw [cBo] at g2
      replace g0 : DataW.trod enc Try.prog w 0 (fun _ => true) true n 9 [c0] = some y0 := g0
      replace g1 : DataW.trod enc Try.prog w 0 (fun _ => true) true n 9 [c1] = some y1 := g1
      replace g2 : DataW.trod enc Try.prog w 0 (fun _ => true) true n 4 [c2] = some y2 := g2
      obtain ⟨a, e0, _, _⟩ := DataW.trod_string Try.underlying9 g0
      obtain ⟨b, e1, _, _⟩ := DataW.trod_string Try.underlying9 g1
      obtain ⟨t, e2, _⟩ := DataW.trod_bool Try.underlying4 g2
      simp at e0 e1 e2
      subst e0 e1 e2
      exact ⟨(a, b, t), rfl⟩

theorem row_of_cells {α : Type} {E : Enc α} {w : World} {a : Addr} {len cap : Nat} {q : Nat → α} (h1 : len ≤ cap) (h2 : cap ≤ maxLen) (h : ∀ i, i < len → ∀ r u, (E.cells (q i))[r]? = some u → w.cell? (a.add (i * E.k + r)) = some u) :
    RowE E w (.slice (some a) len cap) ((List.range len).map q) := by
  refine .inr ⟨a, cap, by simp, by simpa using h1, h2, fun j u hj => ?_⟩
  have hlt : j < ((List.range len).map q).length * E.k := by
    rw [← flat_length]; exact (List.getElem?_eq_some_iff.1 hj).1
  rw [List.length_map, List.length_range] at hlt
  have hk := E.pos
  have hi : j / E.k < len := (Nat.div_lt_iff_lt_mul hk).2 hlt
  have hr : j % E.k < E.k := Nat.mod_lt _ hk
  have e : j = j / E.k * E.k + j % E.k := by rw [Nat.mul_comm]; exact (Nat.div_add_mod j E.k).symm
  have hget : ((List.range len).map q)[j / E.k]? = some (q (j / E.k)) := by simp [hi]
  have := flat_get E hget (j % E.k) hr
  rw [← e, hj] at this
  have h3 := h _ hi _ _ this.symm
  rwa [← e] at h3

theorem bals_trod {H : Type} {enc : TypeId × Value → H} {w : World} {fuel : Nat} {cs : List Value} {x : DataW H × List MemPlace} (h : DataW.trod enc Try.prog w 0 (fun _ => true) true fuel 43 cs = some x) :
    ∃ v l, cs = [v] ∧ RowE encB w v l := by
  rcases Go.Deep.open_slice Try.underlying43 h with ⟨rfl, _⟩ | ⟨a, len, cap, m, n, D, Pl, rfl, _, hl, hm, hmm, _, hx⟩
  · exact ⟨_, [], rfl, .inl ⟨rfl, rfl⟩⟩
  · rw [cB] at hx
    obtain ⟨q, hq⟩ := Go.Deep.choose_lt (α := Bal) (n := len) (p := fun i b => ∀ r u, (encB.cells b)[r]? = some u → w.cell? (a.add (i * 3 + r)) = some u) (fun i hi => by
      obtain ⟨cs', h1, h2⟩ := hx i (by simp at hmm; omega)
      obtain ⟨_, hlen, hcell⟩ := World.cells?_some h1
      obtain ⟨b, rfl⟩ := bal_trod hlen h2
      refine ⟨b, fun r u hr => ?_⟩
      have hr3 : r < 3 := by have := (List.getElem?_eq_some_iff.1 hr).1; simpa [encB] using this
      have := hcell r hr3
      rw [Go.Deep.add_add] at this
      rw [this]
      exact hr)
    exact ⟨_, _, rfl, row_of_cells (E := encB) hl hm hq⟩

theorem strs_trod {H : Type} {enc : TypeId × Value → H} {w : World} {fuel : Nat} {cs : List Value} {x : DataW H × List MemPlace} (h : DataW.trod enc Try.prog w 0 (fun _ => true) true fuel 33 cs = some x) :
    ∃ v l, cs = [v] ∧ RowE encS w v l := by
  rcases Go.Deep.open_slice Try.underlying33 h with ⟨rfl, _⟩ | ⟨a, len, cap, m, n, D, Pl, rfl, _, hl, hm, hmm, _, hx⟩
  · exact ⟨_, [], rfl, .inl ⟨rfl, rfl⟩⟩
  · rw [cSt] at hx
    obtain ⟨q, hq⟩ := Go.Deep.choose_lt (α := ByteArray) (n := len) (p := fun i b => ∀ r u, (encS.cells b)[r]? = some u → w.cell? (a.add (i * 1 + r)) = some u) (fun i hi => by
      obtain ⟨cs', h1, h2⟩ := hx i (by simp at hmm; omega)
      obtain ⟨_, hlen, hcell⟩ := World.cells?_some h1
      obtain ⟨b, e0, _, _⟩ := DataW.trod_string Try.underlying9 h2
      subst e0
      refine ⟨b, fun r u hr => ?_⟩
      have hr3 : r < 1 := by have := (List.getElem?_eq_some_iff.1 hr).1; simpa [encS] using this
      have := hcell r hr3
      rw [Go.Deep.add_add] at this
      rw [this]
      exact hr)
    exact ⟨_, _, rfl, row_of_cells (E := encS) hl hm hq⟩

def BalRep (_ : World) (v : Value) (b : Bal) : Prop := v = balV b
def SnapRep (w : World) (v : Value) (x : List ByteArray × List Bal) : Prop := ∃ sv vv, v = .agg #[sv, vv] ∧ RowE encS w sv x.1 ∧ RowE encB w vv x.2
def StrsRep (w : World) (v : Value) (l : List ByteArray) : Prop := RowE encS w v l
def BalsRep (w : World) (v : Value) (l : List Bal) : Prop := RowE encB w v l

set_option maxRecDepth 100000 in
theorem bal_open {H : Type} {enc : TypeId × Value → H} {w : World} {base : Nat} {v : Value} {d : DataW H} {p : List MemPlace} (hv : Value.okWide Try.prog w .any base 92 v) (h : DataW.Trod enc Try.prog w 0 (fun _ => true) true 92 v d p) (_ : ∀ x ∈ p, x.block < w.heap.size) : ∃ x, BalRep w v x := by
  obtain ⟨cs, rfl, hsz⟩ := okWide_struct Try.underlying92 hv
  obtain ⟨fuel, hf⟩ := h
  obtain ⟨l⟩ := cs
  obtain ⟨b, rfl⟩ := bal_trod (cs := l) (hsz.trans cB) hf
  exact ⟨b, rfl⟩
set_option maxRecDepth 100000 in
theorem snap_open {H : Type} {enc : TypeId × Value → H} {w : World} {base : Nat} {v : Value} {d : DataW H} {p : List MemPlace} (hv : Value.okWide Try.prog w .any base 45 v) (h : DataW.Trod enc Try.prog w 0 (fun _ => true) true 45 v d p) (_ : ∀ x ∈ p, x.block < w.heap.size) : ∃ x, SnapRep w v x := by
  obtain ⟨cs, rfl, hsz⟩ := okWide_struct Try.underlying45 hv
  obtain ⟨fuel, hf⟩ := h
  obtain ⟨l⟩ := cs
  match l, hsz.trans cSn with
  | [c0, c1], _ =>
    obtain ⟨xs, n, _, _, _, hl, hg⟩ := DataW.trod_struct Try.underlying45 hf
    match xs, hl with
    | [y0, y1], _ =>
      have g0 : DataW.trod enc Try.prog w 0 (fun _ => true) true n 33 (([c0, c1].drop 0).take (Try.prog.cellsOf 33)) = some y0 := hg 0 _ rfl
      have g1 : DataW.trod enc Try.prog w 0 (fun _ => true) true n 43 (([c0, c1].drop 1).take (Try.prog.cellsOf 43)) = some y1 := hg 1 _ rfl
      rw [cSs] at g0
      rw [cBs] at g1
      obtain ⟨sv, S, e0, hS⟩ := strs_trod (cs := [c0]) g0
      obtain ⟨vv, V, e1, hV⟩ := bals_trod (cs := [c1]) g1
      simp at e0 e1
      subst e0 e1
      exact ⟨(S, V), c0, c1, rfl, hS, hV⟩
set_option maxRecDepth 100000 in
theorem strs_open {H : Type} {enc : TypeId × Value → H} {w : World} {base : Nat} {v : Value} {d : DataW H} {p : List MemPlace} (hv : Value.okWide Try.prog w .any base 33 v) (h : DataW.Trod enc Try.prog w 0 (fun _ => true) true 33 v d p) (_ : ∀ x ∈ p, x.block < w.heap.size) : ∃ x, StrsRep w v x := by
  obtain ⟨a0, len, cap, rfl⟩ := okWide_slice Try.underlying33 hv
  obtain ⟨fuel, hf⟩ := h
  obtain ⟨u, l, e, hl⟩ := strs_trod hf
  simp [Value.cells] at e
  subst e
  exact ⟨l, hl⟩
set_option maxRecDepth 100000 in
theorem bals_open {H : Type} {enc : TypeId × Value → H} {w : World} {base : Nat} {v : Value} {d : DataW H} {p : List MemPlace} (hv : Value.okWide Try.prog w .any base 43 v) (h : DataW.Trod enc Try.prog w 0 (fun _ => true) true 43 v d p) (_ : ∀ x ∈ p, x.block < w.heap.size) : ∃ x, BalsRep w v x := by
  obtain ⟨a0, len, cap, rfl⟩ := okWide_slice Try.underlying43 hv
  obtain ⟨fuel, hf⟩ := h
  obtain ⟨u, l, e, hl⟩ := bals_trod hf
  simp [Value.cells] at e
  subst e
  exact ⟨l, hl⟩
end Go.Proofs.Ythipnbiilobjeaa
