/- Vset: headers that come in. Vset: a row of headers of one's own: elements laid anew; and what many headers leave. -/
import Derived.Test.YthipnbiilobjeaaVs5
import Derived.Test.YthipnbiilobjeaaVoRep
import Derived.OpenShut
import Derived.Laws.IdiomArrays
import Derived.Test.YthipnbiilobjeaaApp
namespace Go.Proofs.Ythipnbiilobjeaa
open Go.RowKit Go.ChangeShapes Go.WideShapes Go.ChangeAt

theorem cU : Try.prog.cellsOf 78 = 4 := by kernel_rfl
theorem c64 : Try.prog.cellsOf 32 = 1 := by kernel_rfl
theorem cIn : Try.prog.cellsOf 3 = 1 := by kernel_rfl
theorem cSig : Try.prog.cellsOf 80 = 9 := by kernel_rfl
theorem cSgs : Try.prog.cellsOf 34 = 1 := by kernel_rfl
theorem cHd : Try.prog.cellsOf 36 = 11 := by kernel_rfl

theorem word_wf {n : Int} (h : (Lit.int .u64 n).wf = true) : WordOk n := by
  have := bounds_u64 h
  unfold WordOk
  omega

theorem u_trod {H : Type} {enc : TypeId × Value → H} {w : World} {fuel : Nat} {c0 c1 c2 c3 : Value} {x : DataW H × List MemPlace} (h : DataW.trod enc Try.prog w 0 (fun _ => true) true fuel 78 [c0, c1, c2, c3] = some x) :
    ∃ a : U4, [c0, c1, c2, c3] = (u4c a).toList ∧ a.ok := by
  obtain ⟨y0, y1, y2, y3, n, _, g0, g1, g2, g3⟩ := trod_array4 Try.underlying78 c64 h
  obtain ⟨n0, e0, _, w0⟩ := DataW.trod_int Try.underlying32 g0
  obtain ⟨n1, e1, _, w1⟩ := DataW.trod_int Try.underlying32 g1
  obtain ⟨n2, e2, _, w2⟩ := DataW.trod_int Try.underlying32 g2
  obtain ⟨n3, e3, _, w3⟩ := DataW.trod_int Try.underlying32 g3
  simp at e0 e1 e2 e3
  subst e0 e1 e2 e3
  exact ⟨(n0, n1, n2, n3), rfl, word_wf w0, word_wf w1, word_wf w2, word_wf w3⟩

theorem sig_trod {H : Type} {enc : TypeId × Value → H} {w : World} {fuel : Nat} {cs : List Value} {x : DataW H × List MemPlace} (hlen : cs.length = 9) (h : DataW.trod enc Try.prog w 0 (fun _ => true) true fuel 80 cs = some x) :
    ∃ s : Sg, cs = (sgc s).toList ∧ s.ok := by
  match cs, hlen with
  | [c0, c1, c2, c3, c4, c5, c6, c7, c8], _ =>
    obtain ⟨xs, n, _, _, _, hl, hg⟩ := DataW.trod_struct Try.underlying80 h
    match xs, hl with
    | [y0, y1, y2], _ =>
      have g0 : DataW.trod enc Try.prog w 0 (fun _ => true) true n 78 (([c0, c1, c2, c3, c4, c5, c6, c7, c8].drop 0).take (Try.prog.cellsOf 78)) = some y0 := hg 0 _ rfl
      have g1 : DataW.trod enc Try.prog w 0 (fun _ => true) true n 78 (([c0, c1, c2, c3, c4, c5, c6, c7, c8].drop 4).take (Try.prog.cellsOf 78)) = some y1 := hg 1 _ rfl
      have g2 : DataW.trod enc Try.prog w 0 (fun _ => true) true n 3 (([c0, c1, c2, c3, c4, c5, c6, c7, c8].drop 8).take (Try.prog.cellsOf 3)) = some y2 := hg 2 _ rfl
      rw [cU] at g0 g1
      rw [cIn] at g2
      obtain ⟨a, e0, o0⟩ := u_trod (c0 := c0) (c1 := c1) (c2 := c2) (c3 := c3) g0
      obtain ⟨b, e1, o1⟩ := u_trod (c0 := c4) (c1 := c5) (c2 := c6) (c3 := c7) g1
      obtain ⟨v, e2, _, _⟩ := DataW.trod_int Try.underlying3 (cs := [c8]) g2
      simp at e0 e1 e2
      obtain ⟨r0, r1, r2, r3⟩ := e0
      obtain ⟨s0, s1, s2, s3⟩ := e1
      subst r0 r1 r2 r3 s0 s1 s2 s3 e2
      exact ⟨(a, b, v), rfl, o0, o1⟩

theorem sigs_trod {H : Type} {enc : TypeId × Value → H} {w : World} {fuel : Nat} {cs : List Value} {x : DataW H × List MemPlace} (h : DataW.trod enc Try.prog w 0 (fun _ => true) true fuel 34 cs = some x) :
    ∃ v l, cs = [v] ∧ RowE encG w v l ∧ ∀ s ∈ l, s.ok := by
  rcases Go.Deep.open_slice Try.underlying34 h with ⟨rfl, _⟩ | ⟨a, len, cap, m, n, D, Pl, rfl, _, hl, hm, hmm, _, hx⟩
  · exact ⟨_, [], rfl, .inl ⟨rfl, rfl⟩, fun _ h => by cases h⟩
  · rw [cSig] at hx
    obtain ⟨q, hq⟩ := Go.Deep.choose_lt (α := Sg) (n := len) (p := fun i b => (∀ r u, (encG.cells b)[r]? = some u → w.cell? (a.add (i * 9 + r)) = some u) ∧ b.ok) (fun i hi => by
      obtain ⟨cs', h1, h2⟩ := hx i (by simp at hmm; omega)
      obtain ⟨_, hlen, hcell⟩ := World.cells?_some h1
      obtain ⟨b, rfl, ho⟩ := sig_trod hlen h2
      refine ⟨b, fun r u hr => ?_, ho⟩
      have hr3 : r < 9 := by have := (List.getElem?_eq_some_iff.1 hr).1; simpa [encG] using this
      have := hcell r hr3
      rw [Go.Deep.add_add] at this
      rw [this]
      exact hr)
    refine ⟨_, _, rfl, row_of_cells (E := encG) hl hm (fun i hi => (hq i hi).1), fun s hs => ?_⟩
    obtain ⟨i, hi, rfl⟩ := List.mem_map.1 hs
    exact (hq i (List.mem_range.1 hi)).2

/-- A header as it comes in. -/
def HRaw (w : World) (x : HS) : Prop := HdAt w x.1 x.sv x.gv ∧ (0 ≤ x.1.ht ∧ x.1.ht ≤ 18446744073709551615) ∧ (0 ≤ x.1.rd ∧ x.1.rd ≤ 18446744073709551615) ∧ x.1.pa.size ≤ maxLen ∧ x.1.ro.size ≤ maxLen ∧ x.1.tx.size ≤ maxLen ∧ x.1.pr.size ≤ maxLen ∧ x.1.va.size ≤ maxLen ∧ x.1.vo.size ≤ maxLen
theorem HRaw.below {w w' : World} {x : HS} (a : HRaw w x) (hb : Below w.heap.size w w') : HRaw w' x := ⟨a.1.below hb, a.2⟩


theorem hdr_trod {H : Type} {enc : TypeId × Value → H} {w : World} {fuel : Nat} {cs : List Value} {x : DataW H × List MemPlace} (hlen : cs.length = 11) (h : DataW.trod enc Try.prog w 0 (fun _ => true) true fuel 36 cs = some x) :
    ∃ s : HS, cs = (hsc s).toList ∧ HRaw w s := by
  match cs, hlen with
  | [c0, c1, c2, c3, c4, c5, c6, c7, c8, c9, c10], _ =>
    obtain ⟨xs, n, _, _, _, hl, hg⟩ := DataW.trod_struct Try.underlying36 h
    match xs, hl with
    | [y0, y1, y2, y3, y4, y5, y6, y7, y8, y9, y10], _ =>
      have g0 : DataW.trod enc Try.prog w 0 (fun _ => true) true n 9 (([c0, c1, c2, c3, c4, c5, c6, c7, c8, c9, c10].drop 0).take (Try.prog.cellsOf 9)) = some y0 := hg 0 _ rfl
      have g1 : DataW.trod enc Try.prog w 0 (fun _ => true) true n 32 (([c0, c1, c2, c3, c4, c5, c6, c7, c8, c9, c10].drop 1).take (Try.prog.cellsOf 32)) = some y1 := hg 1 _ rfl
      have g2 : DataW.trod enc Try.prog w 0 (fun _ => true) true n 9 (([c0, c1, c2, c3, c4, c5, c6, c7, c8, c9, c10].drop 2).take (Try.prog.cellsOf 9)) = some y2 := hg 2 _ rfl
      have g3 : DataW.trod enc Try.prog w 0 (fun _ => true) true n 9 (([c0, c1, c2, c3, c4, c5, c6, c7, c8, c9, c10].drop 3).take (Try.prog.cellsOf 9)) = some y3 := hg 3 _ rfl
      have g4 : DataW.trod enc Try.prog w 0 (fun _ => true) true n 9 (([c0, c1, c2, c3, c4, c5, c6, c7, c8, c9, c10].drop 4).take (Try.prog.cellsOf 9)) = some y4 := hg 4 _ rfl
      have g5 : DataW.trod enc Try.prog w 0 (fun _ => true) true n 9 (([c0, c1, c2, c3, c4, c5, c6, c7, c8, c9, c10].drop 5).take (Try.prog.cellsOf 9)) = some y5 := hg 5 _ rfl
      have g6 : DataW.trod enc Try.prog w 0 (fun _ => true) true n 33 (([c0, c1, c2, c3, c4, c5, c6, c7, c8, c9, c10].drop 6).take (Try.prog.cellsOf 33)) = some y6 := hg 6 _ rfl
      have g7 : DataW.trod enc Try.prog w 0 (fun _ => true) true n 9 (([c0, c1, c2, c3, c4, c5, c6, c7, c8, c9, c10].drop 7).take (Try.prog.cellsOf 9)) = some y7 := hg 7 _ rfl
      have g8 : DataW.trod enc Try.prog w 0 (fun _ => true) true n 4 (([c0, c1, c2, c3, c4, c5, c6, c7, c8, c9, c10].drop 8).take (Try.prog.cellsOf 4)) = some y8 := hg 8 _ rfl
      have g9 : DataW.trod enc Try.prog w 0 (fun _ => true) true n 32 (([c0, c1, c2, c3, c4, c5, c6, c7, c8, c9, c10].drop 9).take (Try.prog.cellsOf 32)) = some y9 := hg 9 _ rfl
      have g10 : DataW.trod enc Try.prog w 0 (fun _ => true) true n 34 (([c0, c1, c2, c3, c4, c5, c6, c7, c8, c9, c10].drop 10).take (Try.prog.cellsOf 34)) = some y10 := hg 10 _ rfl
      rw [cSt] at g0
      rw [c64] at g1
      rw [cSt] at g2
      rw [cSt] at g3
      rw [cSt] at g4
      rw [cSt] at g5
      rw [cSs] at g6
      rw [cSt] at g7
      rw [cBo] at g8
      rw [c64] at g9
      rw [cSgs] at g10
      obtain ⟨pa, e0, _, w0⟩ := DataW.trod_string Try.underlying9 (cs := [c0]) g0
      obtain ⟨ht, e1, _, w1⟩ := DataW.trod_int Try.underlying32 (cs := [c1]) g1
      obtain ⟨ro, e2, _, w2⟩ := DataW.trod_string Try.underlying9 (cs := [c2]) g2
      obtain ⟨tx, e3, _, w3⟩ := DataW.trod_string Try.underlying9 (cs := [c3]) g3
      obtain ⟨pr, e4, _, w4⟩ := DataW.trod_string Try.underlying9 (cs := [c4]) g4
      obtain ⟨va, e5, _, w5⟩ := DataW.trod_string Try.underlying9 (cs := [c5]) g5
      obtain ⟨sv, val, e6, hS⟩ := strs_trod (cs := [c6]) g6
      obtain ⟨vo, e7, _, w7⟩ := DataW.trod_string Try.underlying9 (cs := [c7]) g7
      obtain ⟨ad, e8, _⟩ := DataW.trod_bool Try.underlying4 (cs := [c8]) g8
      obtain ⟨rd, e9, _, w9⟩ := DataW.trod_int Try.underlying32 (cs := [c9]) g9
      obtain ⟨gv, se, e10, hG, hok⟩ := sigs_trod (cs := [c10]) g10
      simp at e0 e1 e2 e3 e4 e5 e6 e7 e8 e9 e10
      subst e0 e1 e2 e3 e4 e5 e6 e7 e8 e9 e10
      obtain ⟨pS, cS, rfl, _, _⟩ := RowE.shape encS hS
      obtain ⟨pG, cG, rfl, _, _⟩ := RowE.shape encG hG
      exact ⟨(⟨pa, ht, ro, tx, pr, va, val, vo, ad, rd, se⟩, (pS, cS), (pG, cG)), rfl, ⟨hS, hG, hok⟩, bounds_u64 w1, bounds_u64 w9, w0, w2, w3, w4, w5, w7⟩

instance hdInh : Inhabited Hd := ⟨⟨⟨#[]⟩, 0, ⟨#[]⟩, ⟨#[]⟩, ⟨#[]⟩, ⟨#[]⟩, [], ⟨#[]⟩, false, 0, []⟩⟩

theorem hdrs_trod {H : Type} {enc : TypeId × Value → H} {w : World} {fuel : Nat} {cs : List Value} {x : DataW H × List MemPlace} (h : DataW.trod enc Try.prog w 0 (fun _ => true) true fuel 46 cs = some x) :
    ∃ v l, cs = [v] ∧ RowE encH w v l ∧ ∀ s ∈ l, HRaw w s := by
  rcases Go.Deep.open_slice Try.underlying46 h with ⟨rfl, _⟩ | ⟨a, len, cap, m, n, D, Pl, rfl, _, hl, hm, hmm, _, hx⟩
  · exact ⟨_, [], rfl, .inl ⟨rfl, rfl⟩, fun _ h => by cases h⟩
  · rw [cHd] at hx
    obtain ⟨q, hq⟩ := Go.Deep.choose_lt (α := HS) (n := len) (p := fun i b => (∀ r u, (encH.cells b)[r]? = some u → w.cell? (a.add (i * 11 + r)) = some u) ∧ HRaw w b) (fun i hi => by
      obtain ⟨cs', h1, h2⟩ := hx i (by simp at hmm; omega)
      obtain ⟨_, hlen, hcell⟩ := World.cells?_some h1
      obtain ⟨b, rfl, ho⟩ := hdr_trod hlen h2
      refine ⟨b, fun r u hr => ?_, ho⟩
      have hr3 : r < 11 := by have := (List.getElem?_eq_some_iff.1 hr).1; simpa [encH] using this
      have := hcell r hr3
      rw [Go.Deep.add_add] at this
      rw [this]
      exact hr)
    refine ⟨_, _, rfl, row_of_cells (E := encH) hl hm (fun i hi => (hq i hi).1), fun s hs => ?_⟩
    obtain ⟨i, hi, rfl⟩ := List.mem_map.1 hs
    exact (hq i (List.mem_range.1 hi)).2

def HdrRep (w : World) (v : Value) (x : HS) : Prop := v = .agg (hsc x) ∧ HRaw w x
def HdrsRep (w : World) (v : Value) (l : List HS) : Prop := RowE encH w v l ∧ ∀ s ∈ l, HRaw w s

set_option maxRecDepth 100000 in
theorem hdr_open {H : Type} {enc : TypeId × Value → H} {w : World} {base : Nat} {v : Value} {d : DataW H} {p : List MemPlace} (hv : Value.okWide Try.prog w .any base 36 v) (h : DataW.Trod enc Try.prog w 0 (fun _ => true) true 36 v d p) (_ : ∀ x ∈ p, x.block < w.heap.size) : ∃ x, HdrRep w v x := by
  obtain ⟨cs, rfl, hsz⟩ := okWide_struct Try.underlying36 hv
  obtain ⟨fuel, hf⟩ := h
  obtain ⟨l⟩ := cs
  obtain ⟨b, e, hb⟩ := hdr_trod (cs := l) (hsz.trans cHd) hf
  subst e
  exact ⟨b, rfl, hb⟩
set_option maxRecDepth 100000 in
theorem hdrs_open {H : Type} {enc : TypeId × Value → H} {w : World} {base : Nat} {v : Value} {d : DataW H} {p : List MemPlace} (hv : Value.okWide Try.prog w .any base 46 v) (h : DataW.Trod enc Try.prog w 0 (fun _ => true) true 46 v d p) (_ : ∀ x ∈ p, x.block < w.heap.size) : ∃ x, HdrsRep w v x := by
  obtain ⟨a0, len, cap, rfl⟩ := okWide_slice Try.underlying46 hv
  obtain ⟨fuel, hf⟩ := h
  obtain ⟨u, l, e, hl⟩ := hdrs_trod hf
  simp [Value.cells] at e
  subst e
  exact ⟨l, hl⟩
end Go.Proofs.Ythipnbiilobjeaa

namespace Go.Proofs.Ythipnbiilobjeaa
open Go.RowKit Go.Shelf

theorem info_hd : (Try.prog.info? 36).map (fun i => (i.zero, i.size, i.bytes)) = some (some (.agg #[.string ⟨#[]⟩, .int .u64 0, .string ⟨#[]⟩, .string ⟨#[]⟩, .string ⟨#[]⟩, .string ⟨#[]⟩, .slice none 0 0, .string ⟨#[]⟩, .bool false, .int .u64 0, .slice none 0 0]), 11, 168) := by kernel_rfl

theorem HRaw.few {w : World} {x : HS} (a : HRaw w x) : HsOk w (fewH x) := by
  obtain ⟨⟨h1, h2, h3⟩, h5, _⟩ := a
  have e1 : (x.1.val.take (min x.1.val.length 20)).length = min x.1.val.length 20 := by simp
  have e2 : (x.1.se.take (min x.1.se.length 20)).length = min x.1.se.length 20 := by simp
  refine ⟨⟨?_, ?_, fun s hs => h3 s (List.mem_of_mem_take hs)⟩, ?_, h5.1⟩
  · show RowE encS w (.slice x.2.1.1 (x.1.val.take (min x.1.val.length 20)).length x.2.1.2) (x.1.val.take (min x.1.val.length 20))
    rw [e1]
    exact RowE.take encS h1 (Nat.min_le_left _ _)
  · show RowE encG w (.slice x.2.2.1 (x.1.se.take (min x.1.se.length 20)).length x.2.2.2) (x.1.se.take (min x.1.se.length 20))
    rw [e2]
    exact RowE.take encG h2 (Nat.min_le_left _ _)
  · show (x.1.val.take (min x.1.val.length 20)).length ≤ 100000
    rw [e1]; omega

theorem HRaw.call {w : World} {x : HS} (a : HRaw w x) (W : World) : Calls Try.prog 29 #[.agg (hsc x)] W fun e w' => e = .returned (.agg (hsc (fewH x))) ∧ Below W.heap.size W w' := by
  obtain ⟨⟨h1, h2, _⟩, _, _, b0, b1, b2, b3, b4, b5⟩ := a
  obtain ⟨_, _, e1, k1, k2⟩ := RowE.shape encS h1
  obtain ⟨_, _, e2, k3, k4⟩ := RowE.shape encG h2
  injection e1 with _ _ e1
  injection e2 with _ _ e2
  subst e1 e2
  unfold maxLen at b0 b1 b2 b3 b4 b5
  exact fewH_any x W ⟨by omega, by omega, by omega, by omega, by omega, by omega⟩ ⟨k1, k2, k3, k4⟩

theorem nextF_bad {S : List ByteArray} {V : List Bal} {h : Hd} {ep : Int} (hc : (nextF S V h ep).2.2 ≠ 0) : (nextF S V h ep).1 = [] ∧ (nextF S V h ep).2.1 = [] := by
  unfold nextF at *
  split at hc
  · split at hc
    · split at hc
      · split at hc
        · exact absurd rfl hc
        · rename_i h1 h2 h3 h4
          simp only [if_pos h1, if_pos h2, if_pos h3, if_neg h4]
          generalize (if h.ht % ep = 0 then ([] : List Bal) else V) = V1 at *
          have := castF_rel S V1 (h.pr, h.vo, h.ad)
          rcases this with ⟨_, h1, h2, _⟩ | ⟨_, _, h1, h2, _⟩ | ⟨_, _, h1, _⟩
          · exact ⟨h1, h2⟩
          · exact ⟨h1, h2⟩
          · exact absurd h1 hc
      · rename_i h1 h2 h3
        simp only [if_pos h1, if_pos h2, if_neg h3]
        simp
    · rename_i h1 h2
      simp only [if_pos h1, if_neg h2]
      simp
  · rename_i h1
    simp only [if_neg h1]
    simp
theorem foldFrom_bad {ep : Int} : ∀ {l : List HS} {S : List ByteArray} {V : List Bal}, (foldFrom ep l S V).2.2 ≠ 0 → (foldFrom ep l S V).1 = [] ∧ (foldFrom ep l S V).2.1 = []
  | [], S, V, h => absurd rfl h
  | x :: t, S, V, h => by
    rw [foldFrom] at *
    by_cases e : (nextF S V x.1 ep).2.2 = 0
    · rw [if_pos e] at *
      exact foldFrom_bad h
    · rw [if_neg e] at *
      exact nextF_bad e
theorem foldF_parts (S : List ByteArray) (l : List HS) (ep : Int) (c : Nat) : foldF S l ep = if (foldF S (l.take c) ep).2.2 = 0 then foldFrom ep (l.drop c) (foldF S (l.take c) ep).1 (foldF S (l.take c) ep).2.1 else foldF S (l.take c) ep := by
  unfold foldF
  by_cases h : RightOk S [] ∧ ep ≠ 0
  · simp only [if_pos h]
    have := foldFrom_append ep (l.take c) (l.drop c) S []
    rwa [List.take_append_drop] at this
  · simp only [if_neg h]
    rw [if_neg (by decide)]
theorem foldF_bad {S : List ByteArray} {l : List HS} {ep : Int} (h : (foldF S l ep).2.2 ≠ 0) : (foldF S l ep).1 = [] ∧ (foldF S l ep).2.1 = [] := by
  unfold foldF at *
  split at h
  · rename_i h1
    simp only [if_pos h1]
    exact foldFrom_bad h
  · rename_i h1
    simp only [if_neg h1]
    simp
end Go.Proofs.Ythipnbiilobjeaa
