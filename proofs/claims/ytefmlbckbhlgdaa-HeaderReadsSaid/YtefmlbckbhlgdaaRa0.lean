/- From one contract of a law's call to the given statement: for any law that answers true and leaves its arguments as they were. Readings of arguments: slices of strings; words. Strings as lists of bytes: small laws. A row of strings that the call itself has made. Whole rows of cells: what a boxed struct holds, carried from world to world. Rows of elements of some cells each: what is read, and what the call itself has made. Vote: slices.Clone. Rows of one's own: elements behind it (any elements), elements laid anew. Trees in memory: a node is some cells, the last of which is the slice of its kids; rows of nodes of one's own. Regions that draw their order: a first operation that is forced (a call, say), then operations that only read, then a tail in one order. -/
import Derived.Test.YtefmlbckbhlgdaaRows
import Derived.ProofKit
import Derived.SizedLaws
import Derived.Below
import Derived.SliceStrings
import Derived.Lib.Hide
import Derived.WalkKit
import Derived.WalkSpells
import Derived.WalkLawsBesides
import Derived.Laws.Rows
import Derived.Laws.AppendOwnNone
import Derived.Deep.SlicePairs
import Derived.Lib.SliceRun
import Derived.StillTail
import Derived.StillTactics
namespace Go.Proofs.Ytefmlbckbhlgdaa
open Go.ChangeShapes Go.WideShapes Go.ChangeAt Go.RowKit
theorem trodAll_below {H : Type} {enc : TypeId × Value → H} {P : Program} (hl : laidOutB P = true) {W W' : World} (hb : Below W.heap.size W W') :
    ∀ (ts : List TypeId) (vs : List Value) (ds : List (DataW H)) (ps : List MemPlace), (ts.all fun t => P.readableRec t && decide (t < P.types.size)) = true →
      DataW.TrodAll enc P W 0 (fun _ => true) true ts vs ds ps → (∀ x ∈ ps, x.block < W.heap.size) → DataW.TrodAll enc P W' 0 (fun b => decide (b < W.heap.size)) true ts vs ds ps
  | [], [], [], _, _, h, _ => h
  | [], [], _ :: _, _, _, h, _ => h.elim
  | [], _ :: _, _, _, _, h, _ => h.elim
  | _ :: _, [], _, _, _, h, _ => h.elim
  | _ :: _, _ :: _, [], _, _, h, _ => h.elim
  | t :: ts, v :: vs, d :: ds, ps, hr, h, hlt => by
    obtain ⟨p, q, h1, h2, rfl⟩ := h
    simp only [List.all_cons, Bool.and_eq_true, decide_eq_true_eq] at hr
    exact ⟨p, q, Below.trod hl hr.1.1 hr.1.2 h1 hb (fun x hx => hlt x (List.mem_append_left _ hx)),
      trodAll_below hl hb ts vs ds q hr.2 h2 (fun x hx => hlt x (List.mem_append_right _ hx)), rfl⟩

/-- What the contract of a law's call is told of the call's arguments. -/
structure Told {H : Type} (enc : TypeId × Value → H) (P : Program) (ts : List TypeId) (W : World) (args : List Value) (ds : List (DataW H)) (p : List MemPlace) : Prop where
  trod : DataW.TrodAll enc P W 0 (fun _ => true) true ts args ds p
  ok : ∃ base, ∀ (j : Nat) t v, ts[j]? = some t → args[j]? = some v → Value.okWide P W .any base t v
  lt : ∀ x ∈ p, x.block < W.heap.size
  small : (DataW.weightsEach P ts ds).all (· ≤ reachBytes) = true

theorem law_lifted {C : Checked} {f : FuncId} {fn : Func} {s : ChangeSpec} {tb : TypeId} {H : Type} {enc : TypeId × Value → H} (os : Os) (started : os.Started)
    (own : ownKnob C.prog.godebug = none) (noInit : C.prog.inits.idxOf? f = none) (hfn : C.prog.funcs[f]? = some fn)
    (witness : ∃ (w : World) (tape : Tape) (i : Input), w.os = os ∧ (w.forCall tape i).Shaped C.prog ∧ i.vars = [] ∧ Input.okWide C.prog (w.forCall tape i) .any w.heap.size f i ∧
      s.pre6 enc C.prog fn [] false (w.forCall tape i).memory i.args ∧ Assume.holds {} C.prog (lone (Frame.enter C.prog f i.args .normal) [] (w.forCall tape i)))
    (hl : laidOutB C.prog = true) (hr : (fn.params.toList.all fun t => C.prog.readableRec t && decide (t < C.prog.types.size)) = true)
    (hres : fn.resultTypes = #[tb]) (hb : C.prog.underlying tb = some .bool) (hvars : s.vars = [])
    (hspec : ∀ (ds : List (DataW H)), ds.length = fn.params.size → (s.fn H (ds ++ [])) = { results := [.lit (.bool true)], args := ds })
    (contract : ∀ (W : World) (args : Array Value) (ds : List (DataW H)) (p : List MemPlace), Told enc C.prog fn.params.toList W args.toList ds p →
      Calls C.prog f args W fun e W' => e = .returned (.bool true) ∧ Below W.heap.size W W') :
    ReturnsInHanded {} C os f .any (s.pre6 enc C.prog fn [] false) (s.post enc C.prog fn false true false false) := by
  refine returnsInHanded_of_change_sized own started noInit hfn witness ?_
  intro W base args ds gs before hval hW _ hsz _
  have hW' := hW
  obtain ⟨p, q, hA, hV, rfl, _, _⟩ := hW
  rw [hvars] at hV
  obtain ⟨rfl, rfl⟩ := trodVars_none hV
  have hlt : ∀ x ∈ p, x.block < W.heap.size := fun x hx => hW'.lt x (by simpa using hx)
  have hlen : ds.length = fn.params.size := by
    have : ∀ (ts : List TypeId) (vs : List Value) (ds : List (DataW H)) (ps : List MemPlace), DataW.TrodAll enc C.prog W 0 (fun _ => true) true ts vs ds ps → ds.length = ts.length := by
      intro ts
      induction ts with
      | nil => intro vs ds ps h; cases vs <;> cases ds <;> first | rfl | exact h.elim
      | cons t ts ih =>
        intro vs ds ps h
        cases vs with
        | nil => exact h.elim
        | cons v vs => cases ds with
          | nil => exact h.elim
          | cons d ds => obtain ⟨_, _, _, h2, _⟩ := h; simp [ih _ _ _ h2]
    simpa using this _ _ _ _ hA
  have hsm : (DataW.weightsEach C.prog fn.params.toList ds).all (· ≤ reachBytes) = true := by
    have e : s.plain.varTypes C.prog = [] := by simp [DataSpec.varTypes, ChangeSpec.plain, hvars]
    simpa [e] using hsz
  refine (contract W args ds p ⟨hA, ⟨base, fun j t v h1 h2 => hval j t v (by simpa using h1) (by simpa using h2)⟩, hlt, hsm⟩).mono fun e W' ⟨he, bel⟩ => ?_
  subst he
  refine ⟨_, rfl, ds, [], p ++ [], [], p, [], by simpa using hW', ?_, ?_, ?_, bel.frame _, fun h => by cases h⟩
  · rw [hspec ds hlen, hres]
    exact trodAll_mk1 (shut_bool hb true)
  · rw [hspec ds hlen]
    exact trodAll_below hl bel _ _ _ _ hr hA hlt
  · rw [hvars, hspec ds hlen]
    rfl
end Go.Proofs.Ytefmlbckbhlgdaa
namespace Go.Proofs.Ytefmlbckbhlgdaa
open Go.ChangeShapes Go.WideShapes Go.ChangeAt Go.RowKit
theorem Try.own : ownKnob Try.prog.godebug = none := by kernel_rfl
theorem Try.laidOut : laidOutB Try.prog = true := by kernel_rfl

theorem addr_add_block (a : Addr) (n : Nat) : (a.add n).block = a.block := by unfold Addr.add; split <;> rfl

/-- A slice of strings: nil, or a row of cells that hold the strings. -/
def StrRow (w : World) (v : Value) (ss : List ByteArray) : Prop :=
  (v = .slice none 0 0 ∧ ss = []) ∨ ∃ (a : Addr) (len cap : Nat), v = .slice (some a) len cap ∧ len ≤ cap ∧ cap ≤ maxLen ∧ ss.length = len ∧ ∀ i, i < len → w.cell? (a.add i) = some (.string (ss.getD i ByteArray.empty))

theorem u64_wrap_lt {x : Int} (h0 : 0 ≤ x) (h1 : x < 18446744073709551616) : IntKind.u64.wrap x = x := IntWalk.u64_in _ (by omega)

end Go.Proofs.Ytefmlbckbhlgdaa
namespace Go.Proofs.Ytefmlbckbhlgdaa
open Go.RowKit
/-- A list of bytes as a string. -/
def mkS (l : List UInt8) : ByteArray := ⟨l.toArray⟩
/-- A string's bytes. -/
def bl (s : ByteArray) : List UInt8 := s.data.toList

theorem bl_mk (l : List UInt8) : bl (mkS l) = l := by simp [bl, mkS]
theorem mk_bl (s : ByteArray) : mkS (bl s) = s := rfl
theorem bl_length (s : ByteArray) : (bl s).length = s.size := by simp [bl]
theorem mk_size (l : List UInt8) : (mkS l).size = l.length := by simp [mkS, ByteArray.size]
theorem bl_inj {s t : ByteArray} (h : bl s = bl t) : s = t := by rw [← mk_bl s, h, mk_bl]
theorem mk_inj {l m : List UInt8} (h : mkS l = mkS m) : l = m := by rw [← bl_mk l, h, bl_mk]
theorem sget {s : ByteArray} {k : Nat} (h : k < s.size) : (bl s)[k]? = some s[k] := by
  have h' : k < s.data.toList.length := by simpa using h
  unfold bl
  rw [List.getElem?_eq_getElem h']
  rfl
theorem sgetD {s : ByteArray} {k : Nat} (h : k < s.size) : (bl s).getD k 0 = s[k] := by rw [List.getD, sget h]; rfl
theorem mkget {l : List UInt8} {k : Nat} (h : k < (mkS l).size) : (mkS l)[k] = l.getD k 0 := by rw [← sgetD h, bl_mk]
theorem stake_all (s : ByteArray) : (bl s).take s.size = bl s := List.take_of_length_le (by rw [bl_length]; exact Nat.le_refl _)
theorem bl_extract (s : ByteArray) (a b : Nat) : bl (s.extract a b) = ((bl s).take b).drop a := by
  unfold bl
  simp [ByteArray.data_extract, Array.toList_extract, List.drop_take]
theorem bl_append (s t : ByteArray) : bl (s ++ t) = bl s ++ bl t := by
  unfold bl
  simp
theorem mk_append (l m : List UInt8) : mkS l ++ mkS m = mkS (l ++ m) := bl_inj (by rw [bl_append, bl_mk, bl_mk, bl_mk])
theorem toList_bl (s : ByteArray) : s.toList = bl s := ByteArray.toList_eq s
/-- '==' between strings, as a walk writes it. -/
theorem seq_true {a b : ByteArray} (h : a = b) : (a.toList == b.toList) = true := by simp [h]
theorem seq_false {a b : ByteArray} (h : a ≠ b) : (a.toList == b.toList) = false := by
  rw [beq_eq_false_iff_ne, toList_bl, toList_bl]
  exact fun e => h (bl_inj e)
theorem seq_dec (a b : ByteArray) : (a.toList == b.toList) = decide (a = b) := by
  by_cases h : a = b
  · rw [seq_true h]; simp [h]
  · rw [seq_false h]; simp [h]
end Go.Proofs.Ytefmlbckbhlgdaa
namespace Go.Proofs.Ytefmlbckbhlgdaa
open Go.RowKit
/-- Strings as cells. -/
def svals (l : List ByteArray) : List Value := l.map fun b => .string b

theorem info_str : (Try.prog.info? 9).map (fun i => (i.zero, i.size, i.bytes)) = some (some (.string ⟨#[]⟩), 1, 16) := by kernel_rfl

/-- The slice 'v', the call's own from block 'base' on, holds the strings 'l'. -/
def OwnS (w : World) (base : Nat) (v : Value) (l : List ByteArray) : Prop := w.ownsRow base 9 1 v l.length (svals l)

theorem OwnS.drew {w : World} {base : Nat} {v : Value} {l : List ByteArray} (h : OwnS w base v l) : OwnS w.drew base v l := h
theorem OwnS.alloc {w : World} {base : Nat} {v : Value} {l : List ByteArray} (h : OwnS w base v l) (o : Obj) : OwnS (w.alloc o) base v l := World.ownsRow.alloc h o
theorem OwnS.nil (w : World) (base : Nat) : OwnS w base (.slice none 0 0) [] := World.ownsRow_nil w base _ _

theorem OwnS.below {w w' : World} {base B : Nat} {v : Value} {l : List ByteArray} (h : OwnS w base v l) (hb : Below B w w') (hB : w.heap.size ≤ B) : OwnS w' base v l := by
  refine ⟨h.1, ?_⟩
  rcases h.2 with h' | ⟨g, cap, cur, hv, hg, hc, r⟩
  · exact .inl h'
  · have hlt : g < w.heap.size := by
      rcases Nat.lt_or_ge g w.heap.size with h | h
      · exact h
      · rw [Array.getElem?_eq_none h] at hc; cases hc
    exact .inr ⟨g, cap, cur, hv, hg, by rw [hb.block g (by omega)]; exact hc, r⟩

theorem OwnS.start {w : World} {base : Nat} (hb : base ≤ w.heap.size) : OwnS (w.alloc (.cells #[] 9)) base (.slice (some ⟨w.heap.size, 0, none⟩) 0 0) [] := by
  refine ⟨rfl, .inr ⟨w.heap.size, 0, #[], rfl, hb, ?_, Nat.le_refl _, by unfold maxLen; omega, rfl, rfl⟩⟩
  exact (MapKept.heap_alloc w _).1

theorem OwnS.one {w : World} {base : Nat} (hb : base ≤ w.heap.size) (b : ByteArray) : OwnS (w.alloc (.cells #[.string b] 9)) base (.slice (some ⟨w.heap.size, 0, Option.none⟩) 1 1) [b] := by
  refine ⟨rfl, .inr ⟨w.heap.size, 1, _, rfl, hb, (MapKept.heap_alloc w _).1, Nat.le_refl _, by unfold maxLen; omega, rfl, rfl⟩⟩

/-- It reads as its strings. -/
theorem OwnS.row {w : World} {base : Nat} {v : Value} {l : List ByteArray} (h : OwnS w base v l) : StrRow w v l := by
  rcases h.2 with ⟨hv, hn⟩ | ⟨g, cap, cur, hv, hg, hc, hn, hcap, hsz, hx⟩
  · exact .inl ⟨hv, List.eq_nil_of_length_eq_zero hn⟩
  · refine .inr ⟨⟨g, 0, none⟩, l.length, cap, hv, hn, hcap, rfl, fun i hi => ?_⟩
    subst hv
    have := World.ownsRow.cells h rfl i (.string (l.getD i ByteArray.empty)) (by simp [svals, List.getElem?_eq_getElem hi, List.getD])
    exact this

theorem OwnS.mono {w : World} {base b : Nat} {v : Value} {l : List ByteArray} (h : OwnS w base v l) (hb : b ≤ base) : OwnS w b v l := by
  refine ⟨h.1, ?_⟩
  rcases h.2 with h' | ⟨g, cap, cur, hv, hg, hc, r⟩
  · exact .inl h'
  · exact .inr ⟨g, cap, cur, hv, by omega, hc, r⟩

/-- A store below the row's block. -/
theorem OwnS.setLow {w : World} {base : Nat} {v : Value} {l : List ByteArray} (h : OwnS w base v l) (a : Addr) (x : Value) (ha : a.block < base) : OwnS (w.setCell a x) base v l := by
  refine ⟨h.1, ?_⟩
  rcases h.2 with h' | ⟨g, cap, cur, hv, hg, hc, r⟩
  · exact .inl h'
  · exact .inr ⟨g, cap, cur, hv, hg, by rw [heap_setCell_other _ _ _ _ (by omega)]; exact hc, r⟩

theorem StrRow.below {w w' : World} {v : Value} {l : List ByteArray} {B : Nat} (h : StrRow w v l) (hb : Below B w w') (hB : w.heap.size ≤ B) : StrRow w' v l := by
  rcases h with h | ⟨a, len, cap, hv, h1, h2, h3, hc⟩
  · exact .inl h
  · refine .inr ⟨a, len, cap, hv, h1, h2, h3, fun i hi => ?_⟩
    have := hc i hi
    have hlt := block_lt_of_cell this
    rw [hb.cell (by omega)]
    exact this
end Go.Proofs.Ytefmlbckbhlgdaa
namespace Go.Proofs.Ytefmlbckbhlgdaa
open Go.RowKit
/-- Block 'k' holds the cells 'cs', and may be written. -/
def RowAt (w : World) (k : Nat) (cs : Array Value) (T : TypeId) : Prop := w.heap[k]? = some (.cells cs T (0, 0))

theorem RowAt.lt {w : World} {k : Nat} {cs : Array Value} {T : TypeId} (h : RowAt w k cs T) : k < w.heap.size := by
  rcases Nat.lt_or_ge k w.heap.size with h' | h'
  · exact h'
  · unfold RowAt at h; rw [Array.getElem?_eq_none h'] at h; cases h

theorem RowAt.new (w : World) (cs : Array Value) (T : TypeId) : RowAt (w.alloc (.cells cs T)) w.heap.size cs T := heap_alloc_new w _
theorem RowAt.new' (w : World) (cs : Array Value) (T : TypeId) {k : Nat} (hk : k = w.heap.size) : RowAt (w.alloc (.cells cs T)) k cs T := by subst hk; exact heap_alloc_new w _
theorem RowAt.alloc {w : World} {k : Nat} {cs : Array Value} {T : TypeId} (h : RowAt w k cs T) (o : Obj) : RowAt (w.alloc o) k cs T := by
  unfold RowAt
  rw [Below.heap_alloc w o k h.lt]
  exact h
theorem RowAt.drew {w : World} {k : Nat} {cs : Array Value} {T : TypeId} (h : RowAt w k cs T) : RowAt w.drew k cs T := h
theorem RowAt.below {w w' : World} {k B : Nat} {cs : Array Value} {T : TypeId} (h : RowAt w k cs T) (hb : Below B w w') (hB : k < B) : RowAt w' k cs T := by
  unfold RowAt
  rw [hb.block k hB]
  exact h
theorem RowAt.belowS {w w' : World} {k : Nat} {cs : Array Value} {T : TypeId} (h : RowAt w k cs T) (hb : Below w.heap.size w w') : RowAt w' k cs T := h.below hb h.lt
theorem RowAt.set {w : World} {k : Nat} {cs : Array Value} {T : TypeId} (h : RowAt w k cs T) (i : Nat) (v : Value) {cs' : Array Value} (hc : cs.setIfInBounds i v = cs') : RowAt (w.setCell ⟨k, i, none⟩ v) k cs' T := by
  subst hc
  exact heap_setCell_same w k i cs T v h
theorem RowAt.other {w : World} {k : Nat} {cs : Array Value} {T : TypeId} (h : RowAt w k cs T) (a : Addr) (v : Value) (hne : k ≠ a.block) : RowAt (w.setCell a v) k cs T := by
  unfold RowAt
  rw [heap_setCell_other _ _ _ _ hne]
  exact h
theorem RowAt.grown {w w' : World} {k : Nat} {cs : Array Value} {T : TypeId} (h : RowAt w k cs T) {r : Option Nat} (hg : w.grownBy w' r) (hne : some k ≠ r) : RowAt w' k cs T := by
  unfold RowAt
  rw [hg.block k h.lt hne]
  exact h

theorem RowAt.cell {w : World} {k : Nat} {cs : Array Value} {T : TypeId} (h : RowAt w k cs T) (i : Nat) : w.cell? ⟨k, i, none⟩ = cs[i]? := cell_of_row w k i cs T (0, 0) h
theorem RowAt.frozen {w : World} {k : Nat} {cs : Array Value} {T : TypeId} (h : RowAt w k cs T) (i : Nat) : w.frozen? ⟨k, i, none⟩ = false := frozen_of_row w k i cs T h

theorem RowAt.c1 {w : World} {k : Nat} {v0 : Value} {T : TypeId} (h : RowAt w k #[v0] T) : w.cell? ⟨k, 0, none⟩ = some v0 ∧ w.frozen? ⟨k, 0, none⟩ = false := ⟨h.cell 0, h.frozen 0⟩
theorem RowAt.c2 {w : World} {k : Nat} {v0 v1 : Value} {T : TypeId} (h : RowAt w k #[v0, v1] T) : w.cell? ⟨k, 0, none⟩ = some v0 ∧ w.cell? ⟨k, 1, none⟩ = some v1 ∧ w.frozen? ⟨k, 0, none⟩ = false ∧ w.frozen? ⟨k, 1, none⟩ = false :=
  ⟨h.cell 0, h.cell 1, h.frozen 0, h.frozen 1⟩
theorem RowAt.c3 {w : World} {k : Nat} {v0 v1 v2 : Value} {T : TypeId} (h : RowAt w k #[v0, v1, v2] T) : w.cell? ⟨k, 0, none⟩ = some v0 ∧ w.cell? ⟨k, 1, none⟩ = some v1 ∧ w.cell? ⟨k, 2, none⟩ = some v2 ∧
    w.frozen? ⟨k, 0, none⟩ = false ∧ w.frozen? ⟨k, 1, none⟩ = false ∧ w.frozen? ⟨k, 2, none⟩ = false :=
  ⟨h.cell 0, h.cell 1, h.cell 2, h.frozen 0, h.frozen 1, h.frozen 2⟩
end Go.Proofs.Ytefmlbckbhlgdaa
namespace Go.Proofs.Ytefmlbckbhlgdaa
open Go.RowKit
/-- How elements lie as cells. -/
structure Enc (α : Type) where
  k : Nat
  cells : α → List Value
  len : ∀ x, (cells x).length = k
  one : ∀ x, ∀ u ∈ cells x, u.oneCell' = true
  pos : 0 < k

def flat {α : Type} (E : Enc α) : List α → List Value
  | [] => []
  | x :: l => E.cells x ++ flat E l

section
variable {α : Type} (E : Enc α)
theorem flat_length : ∀ l : List α, (flat E l).length = l.length * E.k
  | [] => by simp [flat]
  | x :: l => by rw [flat, List.length_append, E.len, flat_length l, List.length_cons, Nat.add_mul]; omega
theorem flat_append : ∀ l m : List α, flat E (l ++ m) = flat E l ++ flat E m
  | [], m => rfl
  | x :: l, m => by rw [List.cons_append, flat, flat, flat_append l m, List.append_assoc]
theorem flat_one : ∀ l : List α, ∀ u ∈ flat E l, u.oneCell' = true
  | [], u, h => by cases h
  | x :: l, u, h => by
    rw [flat] at h
    rcases List.mem_append.1 h with h | h
    · exact E.one x u h
    · exact flat_one l u h
theorem flat_take (l : List α) (i : Nat) : (flat E l).take (i * E.k) = flat E (l.take i) := by
  induction l generalizing i with
  | nil => simp [flat]
  | cons x l ih =>
    cases i with
    | zero => simp [flat]
    | succ i => rw [flat, List.take_succ_cons, flat, ← ih i, Nat.succ_mul, Nat.add_comm, ← E.len x, List.take_length_add_append]
theorem flat_drop (l : List α) (i : Nat) : (flat E l).drop (i * E.k) = flat E (l.drop i) := by
  induction l generalizing i with
  | nil => simp [flat]
  | cons x l ih =>
    cases i with
    | zero => simp
    | succ i => rw [flat, List.drop_succ_cons, ← ih i, Nat.succ_mul, Nat.add_comm, ← E.len x, List.drop_length_add_append]
theorem flat_get {l : List α} {i : Nat} {x : α} (h : l[i]? = some x) (j : Nat) (hj : j < E.k) : (flat E l)[i * E.k + j]? = (E.cells x)[j]? := by
  obtain ⟨hi, he⟩ := List.getElem?_eq_some_iff.1 h
  have h1 : ((flat E l).drop (i * E.k))[j]? = (E.cells x)[j]? := by
    rw [flat_drop, List.drop_eq_getElem_cons hi, he, flat, List.getElem?_append_left (by rw [E.len]; exact hj)]
  rwa [List.getElem?_drop] at h1

/-- The slice holds the elements. -/
def RowE (w : World) (v : Value) (l : List α) : Prop :=
  (v = .slice none 0 0 ∧ l = []) ∨ ∃ (a : Addr) (cap : Nat), v = .slice (some a) l.length cap ∧ l.length ≤ cap ∧ cap ≤ maxLen ∧ ∀ j u, (flat E l)[j]? = some u → w.cell? (a.add j) = some u

theorem RowE.below {w w' : World} {v : Value} {l : List α} {B : Nat} (h : RowE E w v l) (hb : Below B w w') (hB : w.heap.size ≤ B) : RowE E w' v l := by
  rcases h with h | ⟨a, cap, hv, h1, h2, hc⟩
  · exact .inl h
  · refine .inr ⟨a, cap, hv, h1, h2, fun j u hj => ?_⟩
    have := hc j u hj
    have hlt := block_lt_of_cell this
    rw [hb.cell (by omega)]
    exact this

theorem RowE.shape {w : World} {v : Value} {l : List α} (h : RowE E w v l) : ∃ (p : Option Addr) (cap : Nat), v = .slice p l.length cap ∧ l.length ≤ cap ∧ cap ≤ maxLen := by
  rcases h with ⟨rfl, rfl⟩ | ⟨a, cap, hv, h1, h2, _⟩
  · exact ⟨none, 0, rfl, Nat.le_refl _, by unfold maxLen; omega⟩
  · exact ⟨some a, cap, hv, h1, h2⟩

/-- A beginning of it. -/
theorem RowE.take {w : World} {p : Option Addr} {n c : Nat} {l : List α} (h : RowE E w (.slice p n c) l) {m : Nat} (hm : m ≤ l.length) : RowE E w (.slice p m c) (l.take m) := by
  rcases h with ⟨hv, rfl⟩ | ⟨a, cap, hv, h1, h2, hc⟩
  · injection hv with e1 e2 e3
    subst e1 e2 e3
    obtain rfl : m = 0 := by simpa using hm
    exact .inl ⟨rfl, rfl⟩
  · injection hv with e1 e2 e3
    subst e1 e2 e3
    refine .inr ⟨a, _, by rw [List.length_take, Nat.min_eq_left hm], by rw [List.length_take]; omega, h2, fun j u hj => hc j u ?_⟩
    rw [← flat_take, List.getElem?_take] at hj
    split at hj
    · exact hj
    · cases hj

/-- The call's own row. -/
def OwnE (T : TypeId) (w : World) (base : Nat) (v : Value) (l : List α) : Prop := w.ownsRow base T E.k v l.length (flat E l)

theorem OwnE.below {T : TypeId} {w w' : World} {base B : Nat} {v : Value} {l : List α} (h : OwnE E T w base v l) (hb : Below B w w') (hB : w.heap.size ≤ B) : OwnE E T w' base v l := by
  refine ⟨h.1, ?_⟩
  rcases h.2 with h' | ⟨g, cap, cur, hv, hg, hc, r⟩
  · exact .inl h'
  · have hlt : g < w.heap.size := by
      rcases Nat.lt_or_ge g w.heap.size with h | h
      · exact h
      · rw [Array.getElem?_eq_none h] at hc; cases hc
    exact .inr ⟨g, cap, cur, hv, hg, by rw [hb.block g (by omega)]; exact hc, r⟩

theorem OwnE.row {T : TypeId} {w : World} {base : Nat} {v : Value} {l : List α} (h : OwnE E T w base v l) : RowE E w v l := by
  rcases h.2 with ⟨hv, hn⟩ | ⟨g, cap, cur, hv, hg, hc, hn, hcap, hsz, hx⟩
  · exact .inl ⟨hv, List.eq_nil_of_length_eq_zero hn⟩
  · exact .inr ⟨⟨g, 0, none⟩, cap, hv, hn, hcap, fun j u hj => World.ownsRow.cells h (by rw [hv]; rfl) j u hj⟩

theorem OwnE.nil (T : TypeId) (w : World) (base : Nat) : OwnE E T w base (.slice none 0 0) [] := ⟨by simp [flat], .inl ⟨rfl, rfl⟩⟩

theorem OwnE.mono {T : TypeId} {w : World} {base b : Nat} {v : Value} {l : List α} (h : OwnE E T w base v l) (hb : b ≤ base) : OwnE E T w b v l := by
  refine ⟨h.1, ?_⟩
  rcases h.2 with h' | ⟨g, cap, cur, hv, hg, hc, r⟩
  · exact .inl h'
  · exact .inr ⟨g, cap, cur, hv, by omega, hc, r⟩

theorem OwnE.start {T : TypeId} {w : World} {base : Nat} (hb : base ≤ w.heap.size) : OwnE E T (w.alloc (.cells #[] T)) base (.slice (some ⟨w.heap.size, 0, none⟩) 0 0) [] :=
  ⟨by simp [flat], .inr ⟨w.heap.size, 0, #[], rfl, hb, heap_alloc_new w _, Nat.le_refl _, by unfold maxLen; omega, by simp, by simp [flat]⟩⟩

/-- A row that the call lays with one element. -/
theorem OwnE.lit {T : TypeId} {w : World} {base : Nat} (hb : base ≤ w.heap.size) (x : α) (cs : Array Value) (hcs : cs.toList = E.cells x) : OwnE E T (w.alloc (.cells cs T)) base (.slice (some ⟨w.heap.size, 0, none⟩) 1 1) [x] := by
  have hl : cs.size = E.k := by rw [← Array.length_toList, hcs, E.len]
  refine ⟨by simp [flat, E.len], .inr ⟨w.heap.size, 1, cs, rfl, hb, heap_alloc_new w _, Nat.le_refl _, by unfold maxLen; omega, by rw [hl, Nat.one_mul], ?_⟩⟩
  rw [hcs]
  simp [flat]
  rw [← E.len x, List.take_length]
end
/-- A vote: whose it is, whom about, in or out. -/
abbrev Bal := ByteArray × ByteArray × Bool
def encS : Enc ByteArray := ⟨1, fun s => [.string s], fun _ => rfl, fun x u h => by simp at h; subst h; rfl, by decide⟩
def encB : Enc Bal := ⟨3, fun b => [.string b.1, .string b.2.1, .bool b.2.2], fun _ => rfl, fun x u h => by simp at h; rcases h with rfl | rfl | rfl <;> rfl, by decide⟩
theorem RowE.atS {w : World} {p : Option Addr} {n c : Nat} {l : List ByteArray} (h : RowE encS w (.slice p n c) l) : n = l.length ∧ l.length ≤ c ∧ c ≤ maxLen ∧ ∀ i x, l[i]? = some x → ∃ a, p = some a ∧ w.cell? (a.add i) = some (.string x) := by
  rcases h with ⟨hv, rfl⟩ | ⟨a, cap, hv, h1, h2, hc⟩
  · injection hv with e1 e2 e3
    subst e1 e2 e3
    exact ⟨rfl, Nat.le_refl _, by unfold maxLen; omega, fun i x hx => by simp at hx⟩
  · injection hv with e1 e2 e3
    subst e1 e2 e3
    refine ⟨rfl, h1, h2, fun i x hx => ⟨a, rfl, ?_⟩⟩
    have := flat_get encS hx 0 (by decide)
    have h3 := hc (i * 1 + 0) (.string x) (by rw [show i * 1 + 0 = i * encS.k + 0 from rfl, this]; rfl)
    simpa using h3

theorem RowE.atB {w : World} {p : Option Addr} {n c : Nat} {l : List Bal} (h : RowE encB w (.slice p n c) l) : n = l.length ∧ l.length ≤ c ∧ c ≤ maxLen ∧ ∀ i b, l[i]? = some b → ∃ a, p = some a ∧
    w.cell? (a.add (i * 3)) = some (.string b.1) ∧ w.cell? ⟨(a.add (i * 3)).block, (a.add (i * 3)).off + 1, none⟩ = some (.string b.2.1) ∧ w.cell? ⟨(a.add (i * 3)).block, (a.add (i * 3)).off + 2, none⟩ = some (.bool b.2.2) := by
  rcases h with ⟨hv, rfl⟩ | ⟨a, cap, hv, h1, h2, hc⟩
  · injection hv with e1 e2 e3
    subst e1 e2 e3
    exact ⟨rfl, Nat.le_refl _, by unfold maxLen; omega, fun i x hx => by simp at hx⟩
  · injection hv with e1 e2 e3
    subst e1 e2 e3
    refine ⟨rfl, h1, h2, fun i b hb => ⟨a, rfl, ?_, ?_, ?_⟩⟩
    · have := flat_get encB hb 0 (by decide)
      exact hc (i * 3) _ (by rw [show i * 3 = i * encB.k + 0 from rfl, this]; rfl)
    · have := flat_get encB hb 1 (by decide)
      have e : (⟨(a.add (i * 3)).block, (a.add (i * 3)).off + 1, none⟩ : Addr) = a.add (i * 3 + 1) := by rw [← Go.Deep.add_add]; rfl
      rw [e]
      exact hc (i * 3 + 1) _ (by rw [show i * 3 + 1 = i * encB.k + 1 from rfl, this]; rfl)
    · have := flat_get encB hb 2 (by decide)
      have e : (⟨(a.add (i * 3)).block, (a.add (i * 3)).off + 2, none⟩ : Addr) = a.add (i * 3 + 2) := by rw [← Go.Deep.add_add]; rfl
      rw [e]
      exact hc (i * 3 + 2) _ (by rw [show i * 3 + 2 = i * encB.k + 2 from rfl, this]; rfl)
end Go.Proofs.Ytefmlbckbhlgdaa
namespace Go.Proofs.Ytefmlbckbhlgdaa
open Go.RowKit
theorem below_grown {w w' : World} {base : Nat} {T : TypeId} {k n : Nat} {v : Value} {xs : List Value} (hown : w.ownsRow base T k v n xs) (hg : w.grownBy w' v.ownBlock) (hbase : base ≤ w.heap.size) : ∀ w0, Below base w0 w → Below base w0 w' :=
  fun _ h0 => h0.grown hg hbase fun k hk => (World.ownsRow.lt hown k hk).1

end Go.Proofs.Ytefmlbckbhlgdaa
namespace Go.Proofs.Ytefmlbckbhlgdaa
open Go.RowKit
/-- Elements behind the call's own. -/
theorem wpList_append_rowE {α : Type} (E : Enc α) {ts te : TypeId} {z : Value} {bytes : Nat} (ht : Try.prog.underlying ts = some (.slice te)) (hinf : (Try.prog.info? te).map (fun i => (i.zero, i.size, i.bytes)) = some (some z, E.k, bytes)) (hzs : z.cells.size = E.k)
    {ops : Array Oper} {rest : List Oper} {o : Oper} {a : Act} {Q : Exit → Act → World → Prop} {w : World} (hgd : o.guard = Option.none) (s x : Operand)
    (ho : o.op = .call { callee := .builtin .append, args := #[s, x], argTypes := #[ts, ts] }) (base : Nat) (v : Value) (l : List α) (hs : a.eval s = v) (hown : OwnE E te w base v l)
    (v2 : Value) (news : List α) (hx : a.eval x = v2) (hsrc : RowE E w v2 news) (hb : l.length + news.length ≤ maxLen) (hby : (l.length + news.length) * bytes ≤ 140737488355328) (hbase : base ≤ w.heap.size)
    (h : ∀ v' w', OwnE E te w' base v' (l ++ news) → (∀ w0, Below base w0 w → Below base w0 w') → w.heap.size ≤ w'.heap.size → (v' = .slice none 0 0 ↔ v = .slice none 0 0 ∧ news.length = 0) → wpList Try.prog ops Q rest (a.put o.dst v') w') : wpList Try.prog ops Q (o :: rest) a w := by
  obtain ⟨i0, hi, hz0, hz1, hz2⟩ := info_parts hinf
  rcases hsrc with ⟨rfl, rfl⟩ | ⟨ad, cap, rfl, h1, h2, hc⟩
  · refine wpList_append_own_none hgd s x ts ho base te i0 E.k ht hi v l.length (flat E l) hs hown hx ?_
    exact h v w (by rw [List.append_nil]; exact hown) (fun _ h => h) (Nat.le_refl _) (by simp)
  · refine wpList_append_own w hgd s x ts ho base te i0 _ E.k bytes ht hi hz0 hz1 hz2 hzs E.pos v l.length (flat E l) hs hown ad news.length cap (flat E news) hx (flat_length E news) hc (flat_one E news) hb hby hbase ?_
    intro v' w' hown' hg hn
    refine h v' w' ?_ (below_grown hown hg hbase) hg.size hn
    unfold OwnE
    rw [List.length_append, flat_append]
    exact hown'

/-- One element that the call lays in a block of its own. -/
theorem RowE.lit {α : Type} (E : Enc α) {w : World} {k : Nat} {cs : Array Value} {T : TypeId} (h : w.heap[k]? = some (.cells cs T (0, 0))) (x : α) (hcs : cs.toList = E.cells x) : RowE E w (.slice (some ⟨k, 0, none⟩) 1 1) [x] := by
  refine .inr ⟨⟨k, 0, none⟩, 1, rfl, Nat.le_refl _, by unfold maxLen; omega, fun j u hj => ?_⟩
  have e : flat E [x] = E.cells x := by simp [flat]
  rw [e, ← hcs] at hj
  have : w.cell? ⟨k, j, none⟩ = cs[j]? := cell_of_row w k j cs T _ h
  rw [Array.getElem?_toList] at hj
  rw [← hj, ← this]
  cases j <;> simp [Addr.add]

/-- Cells laid anew from 'o' on. -/
def laid (C : Array Value) (o : Nat) : List Value → Array Value
  | [] => C
  | v :: l => laid (C.setIfInBounds o v) (o + 1) l
theorem laid_size : ∀ (l : List Value) (C : Array Value) (o : Nat), (laid C o l).size = C.size
  | [], _, _ => rfl
  | v :: l, C, o => by rw [laid, laid_size l]; simp
theorem laid_out : ∀ (l : List Value) (C : Array Value) (o q : Nat), (q < o ∨ o + l.length ≤ q) → (laid C o l)[q]? = C[q]?
  | [], _, _, _, _ => rfl
  | v :: l, C, o, q, h => by
    rw [List.length_cons] at h
    rw [laid, laid_out l _ (o + 1) q (by omega), Array.getElem?_setIfInBounds_ne (by omega)]
theorem laid_in : ∀ (l : List Value) (C : Array Value) (o r : Nat), o + l.length ≤ C.size → r < l.length → (laid C o l)[o + r]? = l[r]?
  | [], _, _, r, _, h => by simp at h
  | v :: l, C, o, 0, hs, _ => by
    rw [List.length_cons] at hs
    rw [laid, laid_out l _ (o + 1) (o + 0) (by omega), Nat.add_zero, Array.getElem?_setIfInBounds_self_of_lt (by omega)]
    rfl
  | v :: l, C, o, r + 1, hs, hr => by
    rw [List.length_cons] at hs hr
    rw [laid, show o + (r + 1) = (o + 1) + r by omega, laid_in l _ (o + 1) r (by simp; omega) (by omega)]
    rfl

theorem laid_flat {α : Type} (E : Enc α) {C : Array Value} {L : List α} {i : Nat} (y : α) (hi : i < L.length) (hs : L.length * E.k ≤ C.size) (h : C.toList.take (L.length * E.k) = flat E L) : (laid C (i * E.k) (E.cells y)).toList.take (L.length * E.k) = flat E (L.set i y) := by
  have hk := E.pos
  have hik : i * E.k + E.k ≤ L.length * E.k := by
    have := Nat.mul_le_mul_right E.k (show i + 1 ≤ L.length by omega)
    rw [Nat.add_mul, Nat.one_mul] at this
    exact this
  have hfl : (flat E (L.set i y)).length = L.length * E.k := by rw [flat_length, List.length_set]
  apply List.ext_getElem?
  intro q
  rw [List.getElem?_take]
  by_cases hq : q < L.length * E.k
  · rw [if_pos hq, Array.getElem?_toList]
    have hd : q / E.k < L.length := (Nat.div_lt_iff_lt_mul hk).2 hq
    have hr : q % E.k < E.k := Nat.mod_lt _ hk
    have e : q = q / E.k * E.k + q % E.k := by rw [Nat.mul_comm]; exact (Nat.div_add_mod q E.k).symm
    by_cases he : q / E.k = i
    · have hg : (L.set i y)[i]? = some y := by rw [List.getElem?_set_self hi]
      rw [e, he, flat_get E hg _ hr]
      exact laid_in _ _ _ _ (by rw [E.len]; omega) (by rw [E.len]; exact hr)
    · have hg : (L.set i y)[q / E.k]? = some L[q / E.k] := by rw [List.getElem?_set_ne (Ne.symm he), List.getElem?_eq_getElem hd]
      have h2 := flat_get E (List.getElem?_eq_getElem hd) _ hr
      rw [laid_out]
      · rw [← Array.getElem?_toList]
        have h3 : (C.toList.take (L.length * E.k))[q]? = C.toList[q]? := by rw [List.getElem?_take, if_pos hq]
        rw [← h3, h, e, h2, flat_get E hg _ hr]
      · rw [E.len]
        rcases Nat.lt_or_ge (q / E.k) i with h4 | h4
        · left
          have := Nat.mul_le_mul_right E.k (show q / E.k + 1 ≤ i by omega)
          rw [Nat.add_mul, Nat.one_mul] at this
          omega
        · right
          have := Nat.mul_le_mul_right E.k (show i + 1 ≤ q / E.k by omega)
          rw [Nat.add_mul, Nat.one_mul] at this
          omega
  · rw [if_neg hq, List.getElem?_eq_none (by omega)]

/-- The stores of cells from 'o' on. -/
def layW (w : World) (g o : Nat) : List Value → World
  | [] => w
  | v :: l => layW (w.setCell ⟨g, o, none⟩ v) g (o + 1) l
theorem layW_heap : ∀ (l : List Value) (w : World) (g o : Nat) (C : Array Value) (T : TypeId), RowAt w g C T → RowAt (layW w g o l) g (laid C o l) T
  | [], _, _, _, _, _, h => h
  | v :: l, _, g, o, _, T, h => layW_heap l _ g (o + 1) _ T (h.set o v rfl)
theorem layW_below : ∀ (l : List Value) (w w0 : World) (g o B : Nat), Below B w0 w → B ≤ g → Below B w0 (layW w g o l)
  | [], _, _, _, _, _, h, _ => h
  | v :: l, _, w0, g, o, B, h, hg => layW_below l _ w0 g (o + 1) B (h.setCell (p := ⟨g, o, none⟩) hg v) hg

theorem OwnE.at {α : Type} {E : Enc α} {T : TypeId} {w : World} {base : Nat} {p : Option Addr} {n c : Nat} {L : List α} (h : OwnE E T w base (.slice p n c) L) {i : Nat} {x : α} (hx : L[i]? = some x) :
    ∃ g, p = some ⟨g, 0, none⟩ ∧ base ≤ g ∧ g < w.heap.size ∧ (∀ r u, (E.cells x)[r]? = some u → w.cell? ⟨g, i * E.k + r, none⟩ = some u) ∧ (∀ r, w.frozen? ⟨g, r, none⟩ = false) ∧
      ∀ (y : α) (w' : World), (∀ C, RowAt w g C T → RowAt w' g C T) → OwnE E T (layW w' g (i * E.k) (E.cells y)) base (.slice p n c) (L.set i y) := by
  have hi := (List.getElem?_eq_some_iff.1 hx).1
  rcases h.2 with ⟨_, hn⟩ | ⟨g, cap, cur, hv, hg, hc, hn, hcap, hsz, htk⟩
  · exfalso; omega
  · injection hv with e1 e2 e3
    subst e1 e2 e3
    have hlt : g < w.heap.size := by
      rcases Nat.lt_or_ge g w.heap.size with h | h
      · exact h
      · rw [Array.getElem?_eq_none h] at hc; cases hc
    have hik : i * E.k + E.k ≤ L.length * E.k := by
      have := Nat.mul_le_mul_right E.k (show i + 1 ≤ L.length by omega)
      rw [Nat.add_mul, Nat.one_mul] at this
      exact this
    refine ⟨g, rfl, hg, hlt, fun r u hr => ?_, fun r => frozen_of_row w g r cur T hc, fun y w' hw' => ?_⟩
    · have hr' : r < E.k := by have := (List.getElem?_eq_some_iff.1 hr).1; rw [E.len] at this; exact this
      rw [cell_of_row w g _ cur T _ hc]
      have h3 : (cur.toList.take (L.length * E.k))[i * E.k + r]? = cur.toList[i * E.k + r]? := by rw [List.getElem?_take, if_pos (by omega)]
      rw [← Array.getElem?_toList, ← h3, htk, flat_get E hx r hr', hr]
    · refine ⟨by rw [flat_length], .inr ⟨g, c, laid cur (i * E.k) (E.cells y), by rw [List.length_set], hg, layW_heap _ _ _ _ _ _ (hw' _ hc), by rw [List.length_set]; exact hn, hcap, by rw [laid_size]; exact hsz, ?_⟩⟩
      rw [List.length_set]
      refine laid_flat E y hi ?_ htk
      rw [hsz]
      exact Nat.mul_le_mul_right _ hn

end Go.Proofs.Ytefmlbckbhlgdaa
namespace Go.Proofs.Ytefmlbckbhlgdaa
open Go.RowKit
inductive Tr (α : Type) where
  | mk (a : α) (ks : List (Tr α))
abbrev Tr.val {α : Type} : Tr α → α
  | .mk a _ => a
abbrev Tr.kids {α : Type} : Tr α → List (Tr α)
  | .mk _ ks => ks

/-- How a node lies, but for its kids. -/
structure TE (α : Type) where
  n : Nat
  pre : α → List Value
  len : ∀ a, (pre a).length = n
  one : ∀ a, ∀ u ∈ pre a, u.oneCell' = true

abbrev Sl := Option Addr × Nat × Nat
abbrev slV (s : Sl) : Value := .slice s.1 s.2.1 s.2.2
abbrev EV (α : Type) := α × Sl
def TE.enc {α : Type} (E : TE α) : Enc (EV α) := ⟨E.n + 1, fun x => E.pre x.1 ++ [slV x.2], fun x => by simp [E.len], fun x u h => by
  rcases List.mem_append.1 h with h | h
  · exact E.one _ u h
  · simp at h; subst h; rfl, Nat.succ_pos _⟩

theorem Addr.add_block (a : Addr) (n : Nat) : (a.add n).block = a.block := by unfold Addr.add; split <;> rfl

theorem RowE.keep {α : Type} {E : Enc α} {w w' : World} {ad : Addr} {n c : Nat} {l : List α} (h : RowE E w (.slice (some ad) n c) l) (hk : ∀ (a : Addr) (v : Value), a.block = ad.block → w.cell? a = some v → w'.cell? a = some v) : RowE E w' (.slice (some ad) n c) l := by
  rcases h with ⟨h, _⟩ | ⟨a, cap, hv, h1, h2, hc⟩
  · cases h
  · injection hv with e1 e2 e3
    injection e1 with e1
    subst e1 e2 e3
    exact .inr ⟨ad, c, rfl, h1, h2, fun j u hj => hk _ _ (Addr.add_block _ _) (hc j u hj)⟩

theorem RowE.empty {α : Type} {E : Enc α} {w : World} {p : Option Addr} {c : Nat} (hc : c ≤ maxLen) (hp : p = none → c = 0) : RowE E w (.slice p 0 c) [] := by
  cases p with
  | none => rw [hp rfl]; exact .inl ⟨rfl, rfl⟩
  | some ad => exact .inr ⟨ad, c, rfl, Nat.zero_le _, hc, fun j u h => by simp [flat] at h⟩
theorem RowE.sane {α : Type} {E : Enc α} {w : World} {p : Option Addr} {n c : Nat} {l : List α} (h : RowE E w (.slice p n c) l) : n = l.length ∧ n ≤ c ∧ c ≤ maxLen ∧ (p = none → c = 0) := by
  rcases h with ⟨e, rfl⟩ | ⟨a, cap, hv, h1, h2, _⟩
  · injection e with e1 e2 e3
    subst e1 e2 e3
    exact ⟨rfl, Nat.le_refl _, Nat.zero_le _, fun _ => rfl⟩
  · injection hv with e1 e2 e3
    subst e1 e2 e3
    exact ⟨rfl, h1, h2, fun e => by cases e⟩
theorem RowE.lt {α : Type} {E : Enc α} {w : World} {ad : Addr} {n c : Nat} {l : List α} (h : RowE E w (.slice (some ad) n c) l) (hl : l ≠ []) : ad.block < w.heap.size := by
  rcases h with ⟨e, _⟩ | ⟨a, cap, hv, h1, h2, hc⟩
  · cases e
  · injection hv with e1 e2 e3
    injection e1 with e1
    subst e1
    cases l with
    | nil => exact absurd rfl hl
    | cons x l =>
      have hk := E.pos
      have h0 : 0 < (flat E (x :: l)).length := by rw [flat_length, List.length_cons, Nat.add_mul]; omega
      have := hc 0 _ (List.getElem?_eq_getElem h0)
      have := block_lt_of_cell this
      rwa [Addr.add_block] at this

/-- The node 'x' reads as the tree; all rows of kids lie in blocks of the class. -/
inductive TreeP {α : Type} (E : TE α) (A : Nat → Prop) (w : World) : Tr α → EV α → Prop
  | leaf (a : α) (p : Option Addr) (c : Nat) (hc : c ≤ maxLen) (hp : p = none → c = 0) : TreeP E A w (.mk a []) (a, p, 0, c)
  | node (a : α) (ks : List (Tr α)) (xs : List (EV α)) (ad : Addr) (cap : Nat) (hn : ks ≠ []) (hl : xs.length = ks.length) (hA : A ad.block) (hr : RowE E.enc w (.slice (some ad) ks.length cap) xs)
      (h : ∀ (i : Nat) (k : Tr α) (x : EV α), ks[i]? = some k → xs[i]? = some x → TreeP E A w k x) : TreeP E A w (.mk a ks) (a, some ad, ks.length, cap)

section
variable {α : Type} {E : TE α} {A A' : Nat → Prop} {w w' : World}
theorem TreeP.keep (hk : ∀ (a : Addr) (v : Value), A a.block → w.cell? a = some v → w'.cell? a = some v) (_ : ∀ (a : Addr) (v : Value), A a.block → w.cell? a = some v → A' a.block) (hA0 : ∀ b, A b → A' b) {t : Tr α} {x : EV α} (h : TreeP E A w t x) : TreeP E A' w' t x := by
  induction h with
  | leaf a p c hc hp => exact .leaf a p c hc hp
  | node a ks xs ad cap hn hl hAd hr _ ih => exact .node a ks xs ad cap hn hl (hA0 _ hAd) (RowE.keep hr fun a v ha => hk a v (by rw [ha]; exact hAd)) ih

theorem TreeP.weaken (hA : ∀ b, A b → A' b) {t : Tr α} {x : EV α} (h : TreeP E A w t x) : TreeP E A' w t x := h.keep (fun _ _ _ h => h) (fun _ _ h _ => hA _ h) hA
theorem TreeP.move {B : Nat} (hb : Below B w w') (hB : w.heap.size ≤ B) {t : Tr α} {x : EV α} (h : TreeP E A w t x) : TreeP E A w' t x :=
  h.keep (fun a v _ hc => by rw [hb.cell (Nat.lt_of_lt_of_le (block_lt_of_cell hc) hB)]; exact hc) (fun _ _ h _ => h) (fun _ h => h)
/-- Where only blocks from 'B' on are touched. -/
theorem TreeP.low {B : Nat} (hb : Below B w w') {t : Tr α} {x : EV α} (h : TreeP E (fun b => b < B) w t x) : TreeP E (fun b => b < B) w' t x :=
  h.keep (fun a v ha hc => by rw [hb.cell ha]; exact hc) (fun _ _ h _ => h) (fun _ h => h)
theorem TreeP.parts {t : Tr α} {x : EV α} (h : TreeP E A w t x) : x.1 = t.val ∧ x.2.2.1 = t.kids.length ∧ x.2.2.1 ≤ x.2.2.2 ∧ x.2.2.2 ≤ maxLen ∧ ∃ xs, xs.length = t.kids.length ∧ RowE E.enc w (slV x.2) xs ∧ ∀ (i : Nat) (k : Tr α) (y : EV α), t.kids[i]? = some k → xs[i]? = some y → TreeP E A w k y := by
  cases h with
  | leaf a p c hc hp => exact ⟨rfl, rfl, Nat.zero_le _, hc, [], rfl, RowE.empty hc hp, fun i k y h => by simp at h⟩
  | node a ks xs ad cap hn hl hA hr h =>
    obtain ⟨p, c, e, h1, h2⟩ := RowE.shape _ hr
    injection e with e1 e2 e3
    subst e3
    exact ⟨rfl, rfl, by show ks.length ≤ cap; omega, h2, xs, hl, hr, h⟩

/-- A row of trees. -/
def RowT (E : TE α) (A : Nat → Prop) (w : World) (v : Value) (ts : List (Tr α)) : Prop :=
  ∃ xs, xs.length = ts.length ∧ RowE E.enc w v xs ∧ (ts ≠ [] → ∀ ad n c, v = .slice (some ad) n c → A ad.block) ∧ ∀ (i : Nat) (t : Tr α) (x : EV α), ts[i]? = some t → xs[i]? = some x → TreeP E A w t x
theorem RowT.nil : RowT E A w (.slice none 0 0) [] := ⟨[], rfl, .inl ⟨rfl, rfl⟩, fun h => absurd rfl h, fun i t x h => by simp at h⟩
theorem RowT.shape {v : Value} {ts : List (Tr α)} (h : RowT E A w v ts) : ∃ (p : Option Addr) (cap : Nat), v = .slice p ts.length cap ∧ ts.length ≤ cap ∧ cap ≤ maxLen := by
  obtain ⟨xs, hl, hr, _, _⟩ := h
  obtain ⟨p, c, e, h1, h2⟩ := RowE.shape _ hr
  exact ⟨p, c, by rw [← hl]; exact e, by omega, h2⟩
theorem RowT.below {B : Nat} {v : Value} {ts : List (Tr α)} (h : RowT E A w v ts) (hb : Below B w w') (hB : w.heap.size ≤ B) : RowT E A w' v ts := by
  obtain ⟨xs, hl, hr, ha, ht⟩ := h
  exact ⟨xs, hl, RowE.below _ hr hb hB, ha, fun i t x h1 h2 => (ht i t x h1 h2).move hb hB⟩
theorem RowT.weaken (hA : ∀ b, A b → A' b) {v : Value} {ts : List (Tr α)} (h : RowT E A w v ts) : RowT E A' w v ts := by
  obtain ⟨xs, hl, hr, ha, ht⟩ := h
  exact ⟨xs, hl, hr, fun hn ad n c e => hA _ (ha hn ad n c e), fun i t x h1 h2 => (ht i t x h1 h2).weaken hA⟩
theorem RowT.keep (hk : ∀ (a : Addr) (v : Value), A a.block → w.cell? a = some v → w'.cell? a = some v) (hA0 : ∀ b, A b → A' b) {v : Value} {ts : List (Tr α)} (h : RowT E A w v ts) : RowT E A' w' v ts := by
  obtain ⟨xs, hl, hr, ha, ht⟩ := h
  refine ⟨xs, hl, ?_, fun hn ad n c e => hA0 _ (ha hn ad n c e), fun i t x h1 h2 => (ht i t x h1 h2).keep hk (fun a _ h _ => hA0 _ h) hA0⟩
  obtain ⟨p, c, e, _, _⟩ := RowE.shape _ hr
  subst e
  by_cases hn : ts = []
  · subst hn
    obtain rfl : xs = [] := List.eq_nil_of_length_eq_zero hl
    obtain ⟨_, _, h2, h3⟩ := RowE.sane hr
    exact RowE.empty h2 h3
  · cases p with
    | none =>
      rcases hr with hr | ⟨_, _, e, _⟩
      · exact .inl hr
      · cases e
    | some ad => exact RowE.keep hr fun a v hb => hk a v (by rw [hb]; exact ha hn ad _ _ rfl)
/-- A row of trees as the kids of a node. -/
theorem RowT.node (a : α) {s : Sl} {ts : List (Tr α)} (h : RowT E A w (slV s) ts) : TreeP E A w (.mk a ts) (a, s) := by
  obtain ⟨xs, hl, hr, ha, ht⟩ := h
  obtain ⟨p, n, c⟩ := s
  obtain ⟨e0, e1, e2, e3⟩ := RowE.sane hr
  by_cases hn : ts = []
  · subst hn
    obtain rfl : xs = [] := List.eq_nil_of_length_eq_zero hl
    simp only [List.length_nil] at e0
    subst e0
    exact .leaf a p c e2 e3
  · cases p with
    | none =>
      rcases hr with ⟨_, rfl⟩ | ⟨_, _, e, _⟩
      · exact absurd (List.eq_nil_of_length_eq_zero hl.symm) hn
      · cases e
    | some ad =>
      subst e0
      simp only [hl] at hr ⊢
      exact .node a ts xs ad c hn hl (ha hn ad _ _ rfl) hr ht
/-- One tree in a block of its own. -/
theorem RowT.one {t : Tr α} {s : Sl} {g : Nat} {cs : Array Value} {T : TypeId} (hg : w.heap[g]? = some (.cells cs T (0, 0))) (hcs : cs.toList = E.pre t.val ++ [slV s]) (hA : A g) (h : RowT E A w (slV s) t.kids) : RowT E A w (.slice (some ⟨g, 0, none⟩) 1 1) [t] := by
  refine ⟨[(t.val, s)], rfl, RowE.lit E.enc hg _ hcs, fun _ ad n c e => by injection e with e _ _; injection e with e; subst e; exact hA, fun i t' x h1 h2 => ?_⟩
  obtain ⟨rfl, rfl⟩ : i = 0 ∧ t = t' := by
    cases i with
    | zero => simp at h1; exact ⟨rfl, h1⟩
    | succ i => simp at h1
  simp at h2
  subst h2
  cases t with
  | mk a ks => exact RowT.node a h
theorem TreeP.row {t : Tr α} {x : EV α} (h : TreeP E A w t x) : RowT E A w (slV x.2) t.kids := by
  cases h with
  | leaf a p c hc hp => exact ⟨[], rfl, RowE.empty hc hp, fun h => absurd rfl h, fun i t x h => by simp at h⟩
  | node a ks xs ad cap hn hl hA hr h => exact ⟨xs, hl, hr, fun _ ad' n c e => by injection e with e; injection e with e; subst e; exact hA, h⟩
theorem RowT.at {p : Option Addr} {n c : Nat} {ts : List (Tr α)} (h : RowT E A w (.slice p n c) ts) {i : Nat} {t : Tr α} (ht : ts[i]? = some t) : ∃ ad x, p = some ad ∧ (∀ r u, (E.enc.cells x)[r]? = some u → w.cell? (ad.add (i * (E.n + 1) + r)) = some u) ∧ TreeP E A w t x := by
  obtain ⟨xs, hl, hr, _, h⟩ := h
  have hi := (List.getElem?_eq_some_iff.1 ht).1
  have hx := List.getElem?_eq_getElem (show i < xs.length by omega)
  rcases hr with ⟨_, rfl⟩ | ⟨ad, cap, hv, h1, h2, hc⟩
  · simp at hl; omega
  · injection hv with e1 e2 e3
    subst e1
    refine ⟨ad, xs[i], rfl, fun r u hr => hc _ _ ?_, h i t _ ht hx⟩
    have hr' : r < E.enc.k := by have := (List.getElem?_eq_some_iff.1 hr).1; rwa [E.enc.len] at this
    rw [show i * (E.n + 1) + r = i * E.enc.k + r from rfl, flat_get _ hx r hr']
    exact hr
theorem RowT.take {p : Option Addr} {n c : Nat} {ts : List (Tr α)} (h : RowT E A w (.slice p n c) ts) {m : Nat} (hm : m ≤ ts.length) : RowT E A w (.slice p m c) (ts.take m) := by
  obtain ⟨xs, hl, hr, ha, ht⟩ := h
  refine ⟨xs.take m, by simp; omega, RowE.take _ hr (by omega), fun hn ad n' c' e => ?_, fun i t x h1 h2 => ?_⟩
  · injection e with e _ _
    subst e
    exact ha (fun h => hn (by rw [h]; simp)) ad n c rfl
  · rw [List.getElem?_take] at h1 h2
    split at h1
    · rename_i hlt
      rw [if_pos hlt] at h2
      exact ht i t x h1 h2
    · cases h1

/-- The call's own row of trees; what is below lies outside of it. -/
def OwnT (E : TE α) (T : TypeId) (A : Nat → Prop) (w : World) (base : Nat) (v : Value) (ts : List (Tr α)) : Prop :=
  ∃ xs, xs.length = ts.length ∧ OwnE E.enc T w base v xs ∧ ∀ (i : Nat) (t : Tr α) (x : EV α), ts[i]? = some t → xs[i]? = some x → TreeP E (fun b => A b ∧ v.ownBlock ≠ some b) w t x
theorem OwnT.nil (T : TypeId) (base : Nat) : OwnT E T A w base (.slice none 0 0) [] := ⟨[], rfl, OwnE.nil _ _ _ _, fun i t x h => by simp at h⟩
theorem OwnT.start {T : TypeId} {base : Nat} (hb : base ≤ w.heap.size) : OwnT E T A (w.alloc (.cells #[] T)) base (.slice (some ⟨w.heap.size, 0, none⟩) 0 0) [] := ⟨[], rfl, OwnE.start _ hb, fun i t x h => by simp at h⟩
theorem OwnT.below {T : TypeId} {base B : Nat} {v : Value} {ts : List (Tr α)} (h : OwnT E T A w base v ts) (hb : Below B w w') (hB : w.heap.size ≤ B) : OwnT E T A w' base v ts := by
  obtain ⟨xs, hl, ho, ht⟩ := h
  exact ⟨xs, hl, OwnE.below _ ho hb hB, fun i t x h1 h2 => (ht i t x h1 h2).move hb hB⟩
theorem OwnT.shape {T : TypeId} {base : Nat} {v : Value} {ts : List (Tr α)} (h : OwnT E T A w base v ts) : ∃ (p : Option Addr) (cap : Nat), v = .slice p ts.length cap ∧ ts.length ≤ cap ∧ cap ≤ maxLen := by
  obtain ⟨xs, hl, ho, _⟩ := h
  obtain ⟨p, c, e, h1, h2⟩ := RowE.shape _ (OwnE.row _ ho)
  exact ⟨p, c, by rw [← hl]; exact e, by omega, h2⟩
theorem OwnT.row {T : TypeId} {base : Nat} {v : Value} {ts : List (Tr α)} (h : OwnT E T A w base v ts) (hA : ∀ b, base ≤ b → A b) : RowT E A w v ts := by
  obtain ⟨xs, hl, ho, ht⟩ := h
  refine ⟨xs, hl, OwnE.row _ ho, fun _ ad n c e => ?_, fun i t x h1 h2 => (ht i t x h1 h2).weaken fun b h => h.1⟩
  subst e
  rcases ho.2 with ⟨e, _⟩ | ⟨g, cap, cur, hv, hg, _⟩
  · cases e
  · injection hv with e _ _
    injection e with e
    subst e
    exact hA _ hg

theorem OwnT.lt {T : TypeId} {base : Nat} {v : Value} {ts : List (Tr α)} (h : OwnT E T A w base v ts) : ∀ g, v.ownBlock = some g → base ≤ g ∧ g < w.heap.size := by
  obtain ⟨xs, _, ho, _⟩ := h
  exact fun g hg => World.ownsRow.lt ho g hg
theorem lit_cells {g : Nat} {cs : Array Value} {T : TypeId} (hg : w.heap[g]? = some (.cells cs T (0, 0))) {y : EV α} (hcs : cs.toList = E.enc.cells y) : ∀ j u, (E.enc.cells y)[j]? = some u → w.cell? ((⟨g, 0, none⟩ : Addr).add j) = some u := by
  intro j u hj
  rw [← hcs, Array.getElem?_toList] at hj
  have : w.cell? ⟨g, j, none⟩ = cs[j]? := cell_of_row w g j cs T _ hg
  rw [← hj, ← this]
  cases j <;> simp [Addr.add]
/-- What a call has made, behind the call's own row. -/
theorem OwnT.fresh {T : TypeId} {base B : Nat} {v : Value} {ts : List (Tr α)} {w1 : World} {t : Tr α} {s : Sl} (h : OwnT E T A w base v ts) (hB : w.heap.size ≤ B) (hA : ∀ b, B ≤ b → A b) (hr : RowT E (fun b => B ≤ b) w1 (slV s) t.kids) : TreeP E (fun b => A b ∧ v.ownBlock ≠ some b) w1 t (t.val, s) := by
  cases t with
  | mk a ks => exact (RowT.node a hr).weaken fun b hb => ⟨hA b hb, fun e => by have := (h.lt b e).2; omega⟩

/-- One more element: the row stays where it was, or lies in a new block. -/
theorem run_append_one (F : Enc (EV α)) {ts te : TypeId} {z : Value} {bytes : Nat} (ht : Try.prog.underlying ts = some (.slice te)) (hinf : (Try.prog.info? te).map (fun i => (i.zero, i.size, i.bytes)) = some (some z, F.k, bytes)) (hzs : z.cells.size = F.k) (hbb : bytes ≤ 1000)
    (w : World) (ty : TypeId) (base : Nat) (v : Value) (l : List (EV α)) (hown : OwnE F te w base v l) (ad : Addr) (y : EV α) (hc : ∀ j u, (F.cells y)[j]? = some u → w.cell? (ad.add j) = some u)
    (hb : l.length + 1 ≤ 1000000) (hbase : base ≤ w.heap.size) :
    ∃ v' w', (Builtin.append_ #[ts, ts] ty #[v, .slice (some ad) 1 1]).run Try.prog w = .ok v' w' ∧ OwnE F te w' base v' (l ++ [y]) ∧ w.grownBy w' v.ownBlock ∧ (∀ g, v'.ownBlock = some g → v.ownBlock = some g ∨ w.heap.size ≤ g) := by
  obtain ⟨i0, hi, hz0, hz1, hz2⟩ := info_parts hinf
  have e1 : flat F [y] = F.cells y := by simp [flat]
  have hone : ∀ u ∈ F.cells y, u.oneCell' = true := F.one y
  have hfit : (l.length + 1) * bytes ≤ 140737488355328 := Nat.le_trans (Nat.mul_le_mul hb hbb) (by omega)
  have hfit0 : (0 + 1) * bytes ≤ 140737488355328 := by omega
  have hkl : (F.cells y).length = 1 * F.k := by rw [F.len, Nat.one_mul]
  have hown' : w.ownsRow base te F.k v l.length (flat F l) := hown
  obtain ⟨v', w', hr, h2, h3, _⟩ := run_append_own (P := Try.prog) w base ts ty te i0 _ F.k bytes ht hi hz0 hz1 hz2 hzs F.pos v l.length (flat F l) hown ad 1 1 (F.cells y) hkl hc hone (by unfold maxLen; omega) hfit hbase
  refine ⟨v', w', hr, ?_, h3, ?_⟩
  · unfold OwnE
    rw [List.length_append, flat_append, e1]
    exact h2
  · rcases hown'.2 with ⟨rfl, h0⟩ | ⟨g, cap, cur, rfl, hbg, hg, hnc, hcm, hcs, htake⟩
    · obtain ⟨v2, w2, hr2, k2, _, _⟩ := run_append_own (P := Try.prog) w w.heap.size ts ty te i0 _ F.k bytes ht hi hz0 hz1 hz2 hzs F.pos (.slice none 0 0) 0 [] (World.ownsRow_nil w w.heap.size te F.k) ad 1 1 (F.cells y) hkl hc hone (by unfold maxLen; omega) hfit0 (Nat.le_refl _)
      rw [hr] at hr2
      injection hr2 with e2 e3
      subst e2
      intro g hg
      rcases k2.2 with ⟨e, _⟩ | ⟨g', cap, cur, e, hgb, _⟩
      · rw [e] at hg; cases hg
      · rw [e] at hg; simp [Value.ownBlock] at hg; exact .inr (by omega)
    · intro g' hg'
      by_cases hroom : l.length + 1 ≤ cap
      · have hr2 := run_append_room (P := Try.prog) w ts ty te i0 ht hi g l.length cap cur hg ad 1 1 (F.cells y) (by rw [hz1]; exact hkl) hc hone hroom (by
          rw [hz1, hkl, hcs, ← Nat.add_mul]
          exact Nat.mul_le_mul_right _ hroom)
        rw [hr] at hr2
        injection hr2 with e2 e3
        subst e2
        exact .inl hg'
      · have hr2 := run_append_grow (P := Try.prog) w ts ty te i0 _ ht hi hz0 ⟨g, 0, none⟩ l.length cap (flat F l) (by rw [flat_length, hz1]) (hown'.cells rfl) ad 1 1 (F.cells y) (by rw [hz1]; exact hkl) hc (by omega) (by omega) (growslice_fits (by omega) (by rw [hz2]; exact hfit))
        rw [hr] at hr2
        injection hr2 with e2 e3
        subst e2
        simp [Value.ownBlock] at hg'
        exact .inr (by omega)

/-- One more tree behind the call's own row. -/
theorem wpList_append_tree {ts te : TypeId} {z : Value} {bytes : Nat} (ht : Try.prog.underlying ts = some (.slice te)) (hinf : (Try.prog.info? te).map (fun i => (i.zero, i.size, i.bytes)) = some (some z, E.n + 1, bytes)) (hzs : z.cells.size = E.n + 1) (hbb : bytes ≤ 1000)
    {ops : Array Oper} {rest : List Oper} {o : Oper} {a : Act} {Q : Exit → Act → World → Prop} {w : World} (hgd : o.guard = Option.none) (s x : Operand)
    (ho : o.op = .call { callee := .builtin .append, args := #[s, x], argTypes := #[ts, ts] }) (base : Nat) (v : Value) (l : List (Tr α)) (hs : a.eval s = v) (hown : OwnT E te A w base v l)
    (ad : Addr) (t : Tr α) (y : EV α) (hx : a.eval x = .slice (some ad) 1 1) (hc : ∀ j u, (E.enc.cells y)[j]? = some u → w.cell? (ad.add j) = some u) (hy : TreeP E (fun b => A b ∧ v.ownBlock ≠ some b) w t y)
    (hb : l.length + 1 ≤ 1000000) (hbase : base ≤ w.heap.size)
    (h : ∀ v' w', OwnT E te A w' base v' (l ++ [t]) → w.grownBy w' v.ownBlock → (∀ w0, Below base w0 w → Below base w0 w') → w.heap.size ≤ w'.heap.size → wpList Try.prog ops Q rest (a.put o.dst v') w') : wpList Try.prog ops Q (o :: rest) a w := by
  obtain ⟨xs, hl, hoe, htr⟩ := hown
  obtain ⟨v', w', hr, h1, h2, h3⟩ := run_append_one E.enc ht hinf hzs hbb w o.type base v xs hoe ad y hc (by omega) hbase
  refine wpList_plain hgd fun _ hK => ?_
  unfold Oper.wp execOp
  simp only [ho, resolve, invoke, builtin, Sem.run_bind, Sem.run_pure, Result.andThen_ok, List.map_toArray, List.map_cons, List.map_nil, hs, hx, hr]
  have hkeep : ∀ {t x}, TreeP E (fun b => A b ∧ v.ownBlock ≠ some b) w t x → TreeP E (fun b => (A b ∧ v.ownBlock ≠ some b) ∧ (b < w.heap.size)) w t x → TreeP E (fun b => A b ∧ v'.ownBlock ≠ some b) w' t x := fun _ hp => by
    refine hp.keep (fun a u ha hc => ?_) (fun a u ha hc => ?_) (fun b hb => ?_)
    · rw [World.cell?_of_block (h2.block _ ha.2 (Ne.symm ha.1.2))]
      exact hc
    · exact ⟨ha.1.1, fun e => (h3 _ e).elim ha.1.2 (fun h => absurd ha.2 (by omega))⟩
    · exact ⟨hb.1.1, fun e => (h3 _ e).elim hb.1.2 (fun h => absurd hb.2 (by omega))⟩
  have hlt : ∀ {t x}, TreeP E (fun b => A b ∧ v.ownBlock ≠ some b) w t x → TreeP E (fun b => (A b ∧ v.ownBlock ≠ some b) ∧ (b < w.heap.size)) w t x := fun {t x} hp => by
    induction hp with
    | leaf a p c hc hp => exact .leaf a p c hc hp
    | node a ks xs ad cap hn hl hAd hr hh ih => exact .node a ks xs ad cap hn hl ⟨hAd, RowE.lt hr (fun e => hn (List.eq_nil_of_length_eq_zero (by rw [← hl, e]; rfl)))⟩ hr ih
  refine hK _ _ (h v' w' ⟨xs ++ [y], by simp [hl], h1, fun i t' x' e1 e2 => ?_⟩ h2 (below_grown hoe h2 hbase) h2.size)
  by_cases hi : i < l.length
  · rw [List.getElem?_append_left hi] at e1
    rw [List.getElem?_append_left (by omega)] at e2
    have := htr i t' x' e1 e2
    exact hkeep this (hlt this)
  · obtain rfl : i = l.length := by
      have := (List.getElem?_eq_some_iff.1 e1).1
      simp at this
      omega
    rw [List.getElem?_append_right (Nat.le_refl _), Nat.sub_self] at e1
    rw [List.getElem?_append_right (by omega), hl, Nat.sub_self] at e2
    simp at e1 e2
    subst e1 e2
    exact hkeep hy (hlt hy)
end
end Go.Proofs.Ytefmlbckbhlgdaa
namespace Go.Proofs.Ytefmlbckbhlgdaa
theorem mix : Try.prog.follows .mixedOrders = true := by kernel_rfl

section
variable {P : Program} {ops : Array Oper} {Q : Exit → Act → World → Prop}
/-- The law of a region that draws its order and only reads ahead of its tail, in the world's own word. -/
theorem region_tail {id : Nat} {a : Act} {w : World} {l : List Oper} (n : Nat) (hm : P.follows .mixedOrders = true) (hB : Region.lexTailB .any l.toArray n = true)
    (h : wpStill P l.toArray w.drew (fun a' => wpList P l.toArray Q (l.drop n) a' w.drew) (l.take n) a) : (Code.region id l.toArray true).wp P Q a w :=
  wp_region_still_tail n hm hB h

end
end Go.Proofs.Ytefmlbckbhlgdaa
