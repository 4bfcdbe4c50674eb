/- Nibble: plain functions on lists of bytes. From one contract of a law's call to the given statement: for any law that answers true and leaves its arguments as they were. Readings of arguments: slices of strings; words. Regions that draw their order: a first operation that is forced (a call, say), then operations that only read, then a tail in one order. Nibble: contracts. A row of bytes that the call itself has made. Nibble: contracts of right, join, Of. Nibble: contracts of Pack, alive. Nibble: plain laws of packing. Strings as lists of bytes: small laws. A row of strings that the call itself has made. Whole rows of cells: what a boxed struct holds, carried from world to world. -/
import Derived.Test.YtefmlbckbhlgdaaRows
import Derived.ProofKit
import Derived.SizedLaws
import Derived.Below
import Derived.SliceStrings
import Derived.Lib.Hide
import Derived.WalkKit
import Derived.WalkSpells
import Derived.WalkLawsBesides
import Derived.StillTail
import Derived.StillTactics
import Derived.Lib.BufferRead
import Derived.Deep.RegionLaw
import Derived.Laws.Rows
namespace Go.Proofs.Ytefmlbckbhlgdaa
/-- How many bytes two lists begin with alike. -/
def shareL : List UInt8 → List UInt8 → Nat
  | x :: a, y :: b => if x = y then shareL a b + 1 else 0
  | _, _ => 0

theorem shareL_le : ∀ (a b : List UInt8), shareL a b ≤ a.length ∧ shareL a b ≤ b.length
  | [], _ => by simp [shareL]
  | _ :: _, [] => by simp [shareL]
  | x :: a, y :: b => by
    have := shareL_le a b
    unfold shareL
    split <;> simp <;> omega

theorem shareL_alike : ∀ (a b : List UInt8) (i : Nat), i < shareL a b → a[i]? = b[i]?
  | [], _, i, h => by simp [shareL] at h
  | _ :: _, [], i, h => by simp [shareL] at h
  | x :: a, y :: b, i, h => by
    unfold shareL at h
    split at h
    · rename_i hxy
      cases i with
      | zero => simp [hxy]
      | succ i => simpa using shareL_alike a b i (by omega)
    · omega

theorem shareL_stop : ∀ (a b : List UInt8), shareL a b < a.length → shareL a b < b.length → a[shareL a b]? ≠ b[shareL a b]?
  | [], _, h, _ => by simp at h
  | _ :: _, [], _, h => by simp at h
  | x :: a, y :: b, h1, h2 => by
    unfold shareL at *
    split at h1
    · rename_i hxy
      rw [if_pos hxy] at *
      simpa using shareL_stop a b (by simpa using h1) (by simpa using h2)
    · rename_i hxy
      rw [if_neg hxy] at *
      simpa using hxy

theorem shareL_comm : ∀ (a b : List UInt8), shareL a b = shareL b a
  | [], [] => rfl
  | [], _ :: _ => rfl
  | _ :: _, [] => rfl
  | x :: a, y :: b => by
    unfold shareL
    by_cases h : x = y
    · rw [if_pos h, if_pos h.symm, shareL_comm a b]
    · rw [if_neg h, if_neg (fun e => h e.symm)]

theorem shareL_append : ∀ (c a b : List UInt8), shareL (c ++ a) (c ++ b) = c.length + shareL a b
  | [], a, b => by simp
  | x :: c, a, b => by
    simp only [List.cons_append, shareL, if_true, shareL_append c a b, List.length_cons]
    omega

theorem shareL_self (a : List UInt8) : shareL a a = a.length := by simpa [shareL] using shareL_append a [] []

end Go.Proofs.Ytefmlbckbhlgdaa
namespace Go.Proofs.Ytefmlbckbhlgdaa
open Go.ChangeShapes Go.WideShapes Go.ChangeAt Go.RowKit
theorem trodAll_below {H : Type} {enc : TypeId × Value → H} {P : Program} (hl : laidOutB P = true) {W W' : World} (hb : Below W.heap.size W W') :
    ∀ (ts : List TypeId) (vs : List Value) (ds : List (DataW H)) (ps : List MemPlace), (ts.all fun t => P.readableRec t && decide (t < P.types.size)) = true →
      DataW.TrodAll enc P W 0 (fun _ => true) true ts vs ds ps → (∀ x ∈ ps, x.block < W.heap.size) → DataW.TrodAll enc P W' 0 (fun b => decide (b < W.heap.size)) true ts vs ds ps
  | [], [], [], _, _, h, _ => h
  | [], [], _ :: _, _, _, h, _ => h.elim
  | [], _ :: _, _, _, _, h, _ => h.elim
  | _ :: _, [], _, _, _, h, _ => h.elim
  | _ :: _, _ :: _, [], _, _, h, _ => h.elim
  | t :: ts, v :: vs, d :: ds, ps, hr, h, hlt => by
    obtain ⟨p, q, h1, h2, rfl⟩ := h
    simp only [List.all_cons, Bool.and_eq_true, decide_eq_true_eq] at hr
    exact ⟨p, q, Below.trod hl hr.1.1 hr.1.2 h1 hb (fun x hx => hlt x (List.mem_append_left _ hx)),
      trodAll_below hl hb ts vs ds q hr.2 h2 (fun x hx => hlt x (List.mem_append_right _ hx)), rfl⟩

/-- What the contract of a law's call is told of the call's arguments. -/
structure Told {H : Type} (enc : TypeId × Value → H) (P : Program) (ts : List TypeId) (W : World) (args : List Value) (ds : List (DataW H)) (p : List MemPlace) : Prop where
  trod : DataW.TrodAll enc P W 0 (fun _ => true) true ts args ds p
  ok : ∃ base, ∀ (j : Nat) t v, ts[j]? = some t → args[j]? = some v → Value.okWide P W .any base t v
  lt : ∀ x ∈ p, x.block < W.heap.size
  small : (DataW.weightsEach P ts ds).all (· ≤ reachBytes) = true

theorem law_lifted {C : Checked} {f : FuncId} {fn : Func} {s : ChangeSpec} {tb : TypeId} {H : Type} {enc : TypeId × Value → H} (os : Os) (started : os.Started)
    (own : ownKnob C.prog.godebug = none) (noInit : C.prog.inits.idxOf? f = none) (hfn : C.prog.funcs[f]? = some fn)
    (witness : ∃ (w : World) (tape : Tape) (i : Input), w.os = os ∧ (w.forCall tape i).Shaped C.prog ∧ i.vars = [] ∧ Input.okWide C.prog (w.forCall tape i) .any w.heap.size f i ∧
      s.pre6 enc C.prog fn [] false (w.forCall tape i).memory i.args ∧ Assume.holds {} C.prog (lone (Frame.enter C.prog f i.args .normal) [] (w.forCall tape i)))
    (hl : laidOutB C.prog = true) (hr : (fn.params.toList.all fun t => C.prog.readableRec t && decide (t < C.prog.types.size)) = true)
    (hres : fn.resultTypes = #[tb]) (hb : C.prog.underlying tb = some .bool) (hvars : s.vars = [])
    (hspec : ∀ (ds : List (DataW H)), ds.length = fn.params.size → (s.fn H (ds ++ [])) = { results := [.lit (.bool true)], args := ds })
    (contract : ∀ (W : World) (args : Array Value) (ds : List (DataW H)) (p : List MemPlace), Told enc C.prog fn.params.toList W args.toList ds p →
      Calls C.prog f args W fun e W' => e = .returned (.bool true) ∧ Below W.heap.size W W') :
    ReturnsInHanded {} C os f .any (s.pre6 enc C.prog fn [] false) (s.post enc C.prog fn false true false false) := by
  refine returnsInHanded_of_change_sized own started noInit hfn witness ?_
  intro W base args ds gs before hval hW _ hsz _
  have hW' := hW
  obtain ⟨p, q, hA, hV, rfl, _, _⟩ := hW
  rw [hvars] at hV
  obtain ⟨rfl, rfl⟩ := trodVars_none hV
  have hlt : ∀ x ∈ p, x.block < W.heap.size := fun x hx => hW'.lt x (by simpa using hx)
  have hlen : ds.length = fn.params.size := by
    have : ∀ (ts : List TypeId) (vs : List Value) (ds : List (DataW H)) (ps : List MemPlace), DataW.TrodAll enc C.prog W 0 (fun _ => true) true ts vs ds ps → ds.length = ts.length := by
      intro ts
      induction ts with
      | nil => intro vs ds ps h; cases vs <;> cases ds <;> first | rfl | exact h.elim
      | cons t ts ih =>
        intro vs ds ps h
        cases vs with
        | nil => exact h.elim
        | cons v vs => cases ds with
          | nil => exact h.elim
          | cons d ds => obtain ⟨_, _, _, h2, _⟩ := h; simp [ih _ _ _ h2]
    simpa using this _ _ _ _ hA
  have hsm : (DataW.weightsEach C.prog fn.params.toList ds).all (· ≤ reachBytes) = true := by
    have e : s.plain.varTypes C.prog = [] := by simp [DataSpec.varTypes, ChangeSpec.plain, hvars]
    simpa [e] using hsz
  refine (contract W args ds p ⟨hA, ⟨base, fun j t v h1 h2 => hval j t v (by simpa using h1) (by simpa using h2)⟩, hlt, hsm⟩).mono fun e W' ⟨he, bel⟩ => ?_
  subst he
  refine ⟨_, rfl, ds, [], p ++ [], [], p, [], by simpa using hW', ?_, ?_, ?_, bel.frame _, fun h => by cases h⟩
  · rw [hspec ds hlen, hres]
    exact trodAll_mk1 (shut_bool hb true)
  · rw [hspec ds hlen]
    exact trodAll_below hl bel _ _ _ _ hr hA hlt
  · rw [hvars, hspec ds hlen]
    rfl
end Go.Proofs.Ytefmlbckbhlgdaa
namespace Go.Proofs.Ytefmlbckbhlgdaa
open Go.ChangeShapes Go.WideShapes Go.ChangeAt Go.RowKit
theorem Try.own : ownKnob Try.prog.godebug = none := by kernel_rfl
theorem Try.laidOut : laidOutB Try.prog = true := by kernel_rfl

theorem addr_add_block (a : Addr) (n : Nat) : (a.add n).block = a.block := by unfold Addr.add; split <;> rfl

/-- A slice of strings: nil, or a row of cells that hold the strings. -/
def StrRow (w : World) (v : Value) (ss : List ByteArray) : Prop :=
  (v = .slice none 0 0 ∧ ss = []) ∨ ∃ (a : Addr) (len cap : Nat), v = .slice (some a) len cap ∧ len ≤ cap ∧ cap ≤ maxLen ∧ ss.length = len ∧ ∀ i, i < len → w.cell? (a.add i) = some (.string (ss.getD i ByteArray.empty))

theorem u64_wrap_lt {x : Int} (h0 : 0 ≤ x) (h1 : x < 18446744073709551616) : IntKind.u64.wrap x = x := IntWalk.u64_in _ (by omega)

theorem u64_wrap_bd (x : Int) : 0 ≤ IntKind.u64.wrap x ∧ IntKind.u64.wrap x < 18446744073709551616 := by
  simp [IntKind.wrap, IntKind.bits, IntKind.signed]; omega

end Go.Proofs.Ytefmlbckbhlgdaa
namespace Go.Proofs.Ytefmlbckbhlgdaa
theorem mix : Try.prog.follows .mixedOrders = true := by kernel_rfl

section
variable {P : Program} {ops : Array Oper} {Q : Exit → Act → World → Prop}
/-- The law of a region that draws its order and only reads ahead of its tail, in the world's own word. -/
theorem region_tail {id : Nat} {a : Act} {w : World} {l : List Oper} (n : Nat) (hm : P.follows .mixedOrders = true) (hB : Region.lexTailB .any l.toArray n = true)
    (h : wpStill P l.toArray w.drew (fun a' => wpList P l.toArray Q (l.drop n) a' w.drew) (l.take n) a) : (Code.region id l.toArray true).wp P Q a w :=
  wp_region_still_tail n hm hB h

end
end Go.Proofs.Ytefmlbckbhlgdaa
namespace Go.Proofs.Ytefmlbckbhlgdaa
open Go.RowKit
set_option maxRecDepth 100000
/-- How many bytes two texts begin with alike. -/
def shareB (a b : ByteArray) : Nat := shareL a.data.toList b.data.toList

theorem bget {a : ByteArray} {k : Nat} (h : k < a.size) : a.data.toList[k]? = some a[k] := by
  have h' : k < a.data.toList.length := by simpa using h
  rw [List.getElem?_eq_getElem h']
  rfl

theorem shareB_le (a b : ByteArray) : shareB a b ≤ a.size ∧ shareB a b ≤ b.size := by
  have := shareL_le a.data.toList b.data.toList
  simpa [shareB] using this

theorem shareB_alike (a b : ByteArray) {k : Nat} (h : k < shareB a b) (h1 : k < a.size) (h2 : k < b.size) : ((a[k].toNat : Int) == (b[k].toNat : Int)) = true := by
  have e := shareL_alike a.data.toList b.data.toList k h
  rw [bget h1, bget h2] at e
  rw [Option.some.inj e]
  simp

theorem shareB_stop (a b : ByteArray) (h1 : shareB a b < a.size) (h2 : shareB a b < b.size) : ((a[shareB a b].toNat : Int) == (b[shareB a b].toNat : Int)) = false := by
  have e := shareL_stop a.data.toList b.data.toList (by simpa [shareB] using h1) (by simpa [shareB] using h2)
  change a.data.toList[shareB a b]? ≠ b.data.toList[shareB a b]? at e
  rw [bget h1, bget h2] at e
  simp only [beq_eq_false_iff_ne, ne_eq]
  intro hh
  exact e (congrArg some (UInt8.toNat_inj.1 (by omega)))

set_option maxHeartbeats 2000000 in
theorem share_any (a b : ByteArray) (w : World) (ha : a.size ≤ 9223372036854775807) (_hb : b.size ≤ 9223372036854775807) :
    Calls Try.prog 128 #[.string a, .string b] w fun e w' => e = .returned (.int .i64 (shareB a b)) ∧ Below w.heap.size w w' := by
  have H1 := shareB_le a b
  have HS := Lib.hid (shareB_stop a b)
  generalize hn : shareB a b = n at *
  have HA : Hid (∀ k, k < n → (h1 : k < a.size) → (h2 : k < b.size) → ((a[k].toNat : Int) == (b[k].toNat : Int)) = true) := by subst hn; exact fun k h h1 h2 => shareB_alike a b h h1 h2
  clear hn
  go_enter Try.func128, Try.ntmps128
  go_wp2
  go_loopw [5] (fun i wr => ∃ k : Nat, k ≤ n ∧ i = .int .i64 k ∧ Below w.heap.size w wr) (fun i _ => n - (intOf i).toNat)
  case atStart => exact ⟨0, Nat.zero_le _, rfl, Below.refl _ _⟩
  case round =>
    obtain ⟨k, hk, rfl, hbl⟩ := hrel
    have HB := Lib.hid hbl
    clear hbl
    by_cases hlt : k < n
    · have l1 : k < a.size := by omega
      have l2 : k < b.size := by omega
      have hq := HA.out k hlt l1 l2
      go_wp2
      (refine region_tail 18 mix ?hB ?_; case hB => kernel_rfl); (simp only [List.take_succ_cons, List.take_zero, List.drop_succ_cons, List.drop_zero]; (iterate 18 (with_reducible refine wpStill_step ?_; intro K hK; go_simp; with_reducible refine hK _ ?_; clear hK K)); with_reducible refine wpStill_nil ?_)
      go_wp2
      go_roundw
      case rel => exact ⟨k + 1, by omega, by go_num, HB.out.drew⟩
      case measure => simp [intOf]; omega
    · obtain rfl : k = n := by omega
      by_cases l1 : k < a.size
      · by_cases l2 : k < b.size
        · have hq := HS.out l1 l2
          go_wp2
          (refine region_tail 18 mix ?hB ?_; case hB => kernel_rfl); (simp only [List.take_succ_cons, List.take_zero, List.drop_succ_cons, List.drop_zero]; (iterate 18 (with_reducible refine wpStill_step ?_; intro K hK; go_simp; with_reducible refine hK _ ?_; clear hK K)); with_reducible refine wpStill_nil ?_)
          go_wp2
          go_ret
          exact ⟨rfl, HB.out.drew⟩
        · have hd : decide (k < b.size) = false := by simpa using l2
          clear l2
          go_wp2
          (refine region_tail 18 mix ?hB ?_; case hB => kernel_rfl); (simp only [List.take_succ_cons, List.take_zero, List.drop_succ_cons, List.drop_zero]; (iterate 18 (with_reducible refine wpStill_step ?_; intro K hK; go_simp; with_reducible refine hK _ ?_; clear hK K)); with_reducible refine wpStill_nil ?_)
          go_wp2
          go_ret
          exact ⟨rfl, HB.out.drew⟩
      · have hd : decide (k < a.size) = false := by simpa using l1
        clear l1
        go_wp2
        (refine region_tail 18 mix ?hB ?_; case hB => kernel_rfl); (simp only [List.take_succ_cons, List.take_zero, List.drop_succ_cons, List.drop_zero]; (iterate 18 (with_reducible refine wpStill_step ?_; intro K hK; go_simp; with_reducible refine hK _ ?_; clear hK K)); with_reducible refine wpStill_nil ?_)
        go_wp2
        go_ret
        exact ⟨rfl, HB.out.drew⟩
end Go.Proofs.Ytefmlbckbhlgdaa
namespace Go.Proofs.Ytefmlbckbhlgdaa
open Go.RowKit
/-- Bytes as cells. -/
def bvals (l : List UInt8) : List Value := l.map fun b => .int .u8 (b.toNat : Int)

/-- Block 'g' holds the bytes 'l', the call's own, from block 'base' on. -/
def Buf (w : World) (base g : Nat) (l : List UInt8) : Prop := w.ownsRow base 5 1 (.slice (some ⟨g, 0, none⟩) l.length l.length) l.length (bvals l)

theorem Buf.cell {w : World} {base g : Nat} {l : List UInt8} (h : Buf w base g l) {i : Nat} (hi : i < l.length) : w.cell? ⟨g, i, none⟩ = some (.int .u8 ((l.getD i 0).toNat : Int)) := by
  have := World.ownsRow.cellAt h i (by simpa using hi)
  rw [this]
  simp [bvals, List.getElem?_eq_getElem hi, List.getD]

theorem Buf.frozen {w : World} {base g : Nat} {l : List UInt8} (h : Buf w base g l) (i : Nat) : w.frozen? ⟨g, i, none⟩ = false := World.ownsRow.frozenAt h i

theorem Buf.lt {w : World} {base g : Nat} {l : List UInt8} (h : Buf w base g l) : base ≤ g ∧ g < w.heap.size := World.ownsRow.lt h g rfl

theorem Buf.set {w : World} {base g : Nat} {l : List UInt8} (h : Buf w base g l) (i : Nat) (b : UInt8) {v : Int} (hv : v = (b.toNat : Int)) : Buf (w.setCell ⟨g, i, none⟩ (.int .u8 v)) base g (l.set i b) := by
  subst hv
  have := (World.ownsRow.stored h i (.int .u8 (b.toNat : Int))).1
  unfold Buf bvals at *
  rw [List.length_set, List.map_set]
  exact this

theorem Buf.drew {w : World} {base g : Nat} {l : List UInt8} (h : Buf w base g l) : Buf w.drew base g l := h

theorem Buf.conv {w : World} {base g : Nat} {l : List UInt8} (h : Buf w base g l) (n : Nat) (hn : n = l.length) : (convert 123 9 (.slice (some ⟨g, 0, none⟩) n n)).run Try.prog w = .ok (.string ⟨l.toArray⟩) w := by
  subst hn
  refine run_convert_bytes_back w 123 9 5 _ _ l Try.underlying123 Try.underlying5 Try.underlying9 fun j hj => ?_
  have := h.cell hj
  simp only [Addr.add, Nat.zero_add]
  split
  · rename_i h0; subst h0; rw [this]; simp [List.getD, List.getElem?_eq_getElem hj]
  · rw [this]; simp [List.getD, List.getElem?_eq_getElem hj]

/-- 'f' laid into the first 'i' of 'n' places, 0 behind them. -/
def fillL (f : Nat → UInt8) (n i : Nat) : List UInt8 := (List.range n).map fun j => if j < i then f j else 0

theorem fillL_length (f : Nat → UInt8) (n i : Nat) : (fillL f n i).length = n := by simp [fillL]

theorem fillL_set (f : Nat → UInt8) (n i : Nat) : (fillL f n i).set i (f i) = fillL f n (i + 1) := by
  refine List.ext_getElem (by simp [fillL]) fun j h1 h2 => ?_
  simp only [fillL, List.getElem_set, List.getElem_map, List.getElem_range]
  by_cases h : i = j
  · subst h; simp
  · rw [if_neg h]
    by_cases h' : j < i
    · rw [if_pos h', if_pos (by omega)]
    · rw [if_neg h', if_neg (by omega)]

theorem fillL_full (f : Nat → UInt8) (n : Nat) : fillL f n n = (List.range n).map f := by
  unfold fillL
  refine List.map_congr_left fun j hj => ?_
  rw [if_pos (List.mem_range.1 hj)]

theorem info_u8 : (Try.prog.info? 5).map (fun i => (i.zero, i.size, i.bytes)) = some (some (.int .u8 0), 1, 1) := by kernel_rfl

theorem buf_made {w : World} {base g n : Nat} (f : Nat → UInt8) (h : w.ownsRow base 5 1 (.slice (some ⟨g, 0, none⟩) n n) n (madeCells (Value.cells (.int .u8 0)) (n * 1)).toList) : Buf w base g (fillL f n 0) := by
  unfold Buf
  rw [fillL_length]
  have e : (madeCells (Value.cells (.int .u8 0)) (n * 1)).toList = bvals (fillL f n 0) := by
    refine List.ext_getElem ?_ fun j h1 h2 => ?_
    · simp [bvals, fillL_length, madeCells]
    · simp [bvals, fillL, madeCells, Value.cells, Nat.mod_one]
  rwa [e] at h

theorem Buf.grown {w : World} {base g : Nat} {l : List UInt8} (h : Buf w base g l) (i : Nat) (v : Value) : w.grownBy (w.setCell ⟨g, i, none⟩ v) (some g) := (World.ownsRow.stored h i v).2

/-- The slice 'v', the call's own from block 'base' on, holds the bytes 'l'. -/
def OwnB (w : World) (base : Nat) (v : Value) (l : List UInt8) : Prop := w.ownsRow base 5 1 v l.length (bvals l)

theorem OwnB.drew {w : World} {base : Nat} {v : Value} {l : List UInt8} (h : OwnB w base v l) : OwnB w.drew base v l := h

theorem OwnB.alloc {w : World} {base : Nat} {v : Value} {l : List UInt8} (h : OwnB w base v l) (o : Obj) : OwnB (w.alloc o) base v l := World.ownsRow.alloc h o

theorem OwnB.nil (w : World) (base : Nat) : OwnB w base (.slice none 0 0) [] := World.ownsRow_nil w base _ _

theorem OwnB.below {w w' : World} {base B : Nat} {v : Value} {l : List UInt8} (h : OwnB w base v l) (hb : Below B w w') (hB : w.heap.size ≤ B) : OwnB w' base v l := by
  refine ⟨h.1, ?_⟩
  rcases h.2 with h' | ⟨g, cap, cur, hv, hg, hc, r⟩
  · exact .inl h'
  · have hlt : g < w.heap.size := by
      rcases Nat.lt_or_ge g w.heap.size with h | h
      · exact h
      · rw [Array.getElem?_eq_none h] at hc; cases hc
    exact .inr ⟨g, cap, cur, hv, hg, by rw [hb.block g (by omega)]; exact hc, r⟩

theorem OwnB.start {w : World} {base : Nat} (hb : base ≤ w.heap.size) (_ : Nat) : OwnB (w.alloc (.cells #[] 5)) base (.slice (some ⟨w.heap.size, 0, none⟩) 0 0) [] := by
  refine ⟨rfl, .inr ⟨w.heap.size, 0, #[], rfl, hb, ?_, Nat.le_refl _, by unfold maxLen; omega, rfl, rfl⟩⟩
  exact (MapKept.heap_alloc w _).1

theorem OwnB.conv {w : World} {base : Nat} {v : Value} {l : List UInt8} (h : OwnB w base v l) : (convert 123 9 v).run Try.prog w = .ok (.string ⟨l.toArray⟩) w := by
  rcases h.2 with ⟨hv, hn⟩ | ⟨g, cap, cur, hv, hg, hc, hn, hcap, hsz, hx⟩
  · subst hv
    obtain rfl : l = [] := List.eq_nil_of_length_eq_zero hn
    exact Lib.run_convert_nil_bytes w _ _ 5 0 Try.underlying123 Try.underlying5 Try.underlying9
  · subst hv
    refine run_convert_bytes_back w 123 9 5 _ _ l Try.underlying123 Try.underlying5 Try.underlying9 fun j hj => ?_
    refine World.ownsRow.cells h rfl j _ ?_
    simp [bvals, List.getElem?_eq_getElem hj]

theorem wpList_append_bytes {ops : Array Oper} {rest : List Oper} {o : Oper} {a : Act} {Q : Exit → Act → World → Prop} {w : World} (hgd : o.guard = Option.none) (s x : Operand)
    (ho : o.op = .call { callee := .builtin .append, args := #[s, x], argTypes := #[123, 123] }) (base : Nat) (v : Value) (l : List UInt8) (hs : a.eval s = v) (hown : OwnB w base v l)
    (ad : Addr) (m c : Nat) (news : List UInt8) (hx : a.eval x = .slice (some ad) m c) (hl : news.length = m) (hnews : ∀ j (h : j < news.length), w.cell? (ad.add j) = some (.int .u8 (news[j].toNat : Int)))
    (hb : l.length + m ≤ 140737488355328) (hbase : base ≤ w.heap.size)
    (h : ∀ v' w', OwnB w' base v' (l ++ news) → (∀ w0, Below base w0 w → Below base w0 w') → w.heap.size ≤ w'.heap.size → wpList Try.prog ops Q rest (a.put o.dst v') w') : wpList Try.prog ops Q (o :: rest) a w := by
  obtain ⟨i0, hi, hz0, hz1, hz2⟩ := info_parts info_u8
  subst hl
  refine wpList_append_own w hgd s x 123 ho base 5 i0 (.int .u8 0) 1 1 Try.underlying123 hi hz0 hz1 hz2 rfl (by decide) v l.length (bvals l) hs hown ad news.length c (bvals news) hx (by simp [bvals]) ?_ ?_ (by unfold maxLen; omega) (by omega) hbase ?_
  · intro j u hj
    simp only [bvals, List.getElem?_map, Option.map_eq_some_iff] at hj
    obtain ⟨b, hb1, rfl⟩ := hj
    obtain ⟨hlt, rfl⟩ := List.getElem?_eq_some_iff.1 hb1
    exact hnews j hlt
  · intro u hu
    obtain ⟨b, _, rfl⟩ := List.mem_map.1 hu
    rfl
  · intro v' w' hown' hg _
    refine h v' w' ?_ (fun w0 h0 => h0.grown hg hbase fun k hk => ?_) hg.size
    · unfold OwnB bvals at *
      rw [List.length_append, List.map_append]
      exact hown'
    · exact (World.ownsRow.lt hown k hk).1

/-- 'append' to the call's own bytes, as one step of a region that draws. -/
theorem step_append_bytes {ops : Array Oper} {o : Oper} {a : Act} {K : Act → World → Prop} {Q : Exit → Act → World → Prop} {E : Prop} {w : World} (hgd : o.guard = Option.none) (s x : Operand)
    (ho : o.op = .call { callee := .builtin .append, args := #[s, x], argTypes := #[123, 123] }) (base : Nat) (v : Value) (l : List UInt8) (hs : a.eval s = v) (hown : OwnB w base v l)
    (ad : Addr) (m c : Nat) (news : List UInt8) (hx : a.eval x = .slice (some ad) m c) (hl : news.length = m) (hnews : ∀ j (h : j < news.length), w.cell? (ad.add j) = some (.int .u8 (news[j].toNat : Int)))
    (hb : l.length + m ≤ 140737488355328) (hbase : base ≤ w.heap.size)
    (h : ∀ v' w', OwnB w' base v' (l ++ news) → (∀ w0, Below base w0 w → Below base w0 w') → w.heap.size ≤ w'.heap.size → K (a.put o.dst v') w') :
    if Region.wanted o (yielded ops a.tmps) = true then Oper.wp Try.prog o a w K Q else E := by
  rw [if_pos (by simp [Region.wanted, hgd])]
  obtain ⟨i0, hi, hz0, hz1, hz2⟩ := info_parts info_u8
  subst hl
  refine wp_append_own w s x 123 ho base 5 i0 (.int .u8 0) 1 1 Try.underlying123 hi hz0 hz1 hz2 rfl (by decide) v l.length (bvals l) hs hown ad news.length c (bvals news) hx (by simp [bvals]) ?_ ?_ (by unfold maxLen; omega) (by omega) hbase ?_
  · intro j u hj
    simp only [bvals, List.getElem?_map, Option.map_eq_some_iff] at hj
    obtain ⟨b, hb1, rfl⟩ := hj
    obtain ⟨hlt, rfl⟩ := List.getElem?_eq_some_iff.1 hb1
    exact hnews j hlt
  · intro u hu
    obtain ⟨b, _, rfl⟩ := List.mem_map.1 hu
    rfl
  · intro v' w' hown' hg _
    refine h v' w' ?_ (fun w0 h0 => h0.grown hg hbase fun k hk => ?_) hg.size
    · unfold OwnB bvals at *
      rw [List.length_append, List.map_append]
      exact hown'
    · exact (World.ownsRow.lt hown k hk).1

theorem two_cells {w : World} {x y : Int} {b c : UInt8} {T : TypeId} (hx : x = (b.toNat : Int)) (hy : y = (c.toNat : Int)) : ∀ j (h : j < [b, c].length), (w.alloc (.cells #[.int .u8 x, .int .u8 y] T)).cell? ((⟨w.heap.size, 0, Option.none⟩ : Addr).add j) = some (.int .u8 ([b, c][j].toNat : Int)) := by
  intro j h
  subst hx hy
  match j, h with
  | 0, _ => simp [Addr.add]
  | 1, _ => simp [Addr.add]

theorem one_cell_new {w : World} {x : Int} {b : UInt8} {T : TypeId} (hx : x = (b.toNat : Int)) : ∀ j (h : j < [b].length), (w.alloc (.cells #[.int .u8 x] T)).cell? ((⟨w.heap.size, 0, Option.none⟩ : Addr).add j) = some (.int .u8 ([b][j].toNat : Int)) := by
  intro j h
  subst hx
  match j, h with
  | 0, _ => simp [Addr.add]

theorem OwnB.one {w : World} {base : Nat} (hb : base ≤ w.heap.size) {x : Int} (b : UInt8) (hx : x = (b.toNat : Int)) : OwnB (w.alloc (.cells #[.int .u8 x] 5)) base (.slice (some ⟨w.heap.size, 0, Option.none⟩) 1 1) [b] := by
  subst hx
  refine ⟨rfl, .inr ⟨w.heap.size, 1, _, rfl, hb, (MapKept.heap_alloc w _).1, Nat.le_refl _, by unfold maxLen; omega, rfl, rfl⟩⟩
theorem OwnB.two {w : World} {base : Nat} (hb : base ≤ w.heap.size) {x y : Int} (b c : UInt8) (hx : x = (b.toNat : Int)) (hy : y = (c.toNat : Int)) : OwnB (w.alloc (.cells #[.int .u8 x, .int .u8 y] 5)) base (.slice (some ⟨w.heap.size, 0, Option.none⟩) 2 2) [b, c] := by
  subst hx hy
  refine ⟨rfl, .inr ⟨w.heap.size, 2, _, rfl, hb, (MapKept.heap_alloc w _).1, Nat.le_refl _, by unfold maxLen; omega, rfl, rfl⟩⟩

theorem one_cell_at {w : World} {n : Nat} {x : Int} {b : UInt8} {T : TypeId} (hx : x = (b.toNat : Int)) (hn : n = w.heap.size) : ∀ j (h : j < [b].length), (w.alloc (.cells #[.int .u8 x] T)).cell? ((⟨n, 0, Option.none⟩ : Addr).add j) = some (.int .u8 ([b][j].toNat : Int)) := by
  subst hn
  exact one_cell_new hx
end Go.Proofs.Ytefmlbckbhlgdaa
namespace Go.Proofs.Ytefmlbckbhlgdaa
open Go.RowKit
set_option maxRecDepth 100000
/-- Is a text a part? -/
def rightB (s : ByteArray) : Bool := s.data.toList.all (· < 16)

theorem rightB_at {s : ByteArray} (h : rightB s = true) {i : Nat} (hi : i < s.size) : s[i].toNat < 16 := by
  have := (List.all_eq_true.1 h) s[i] (List.mem_of_getElem? (bget hi))
  simpa [UInt8.lt_iff_toNat_lt] using this

theorem all_bad : ∀ (l : List UInt8), l.all (· < 16) = false → ∃ (i : Nat) (c : UInt8), l[i]? = some c ∧ 16 ≤ c.toNat ∧ ∀ (j : Nat), j < i → ∀ d : UInt8, l[j]? = some d → d.toNat < 16
  | [], h => by simp at h
  | x :: l, h => by
    by_cases hx : x < 16
    · have h' : l.all (· < 16) = false := by simpa [hx] using h
      obtain ⟨i, c, h1, h2, h3⟩ := all_bad l h'
      refine ⟨i + 1, c, by simpa using h1, h2, fun j hj d hd => ?_⟩
      cases j with
      | zero => simp at hd; subst hd; simpa [UInt8.lt_iff_toNat_lt] using hx
      | succ j => exact h3 j (by omega) d (by simpa using hd)
    · refine ⟨0, x, rfl, ?_, fun j hj => by omega⟩
      have : ¬ x.toNat < 16 := by simpa [UInt8.lt_iff_toNat_lt] using hx
      omega

theorem rightB_bad {s : ByteArray} (h : rightB s = false) : ∃ i, ∃ hi : i < s.size, 16 ≤ s[i].toNat ∧ ∀ j, (hj : j < i) → s[j].toNat < 16 := by
  obtain ⟨i, c, h1, h2, h3⟩ := all_bad _ h
  have hi : i < s.size := by
    have := (List.getElem?_eq_some_iff.1 h1).1
    simpa using this
  have e := bget hi
  rw [h1] at e
  refine ⟨i, hi, ?_, fun j hj => h3 j hj _ (bget (by omega))⟩
  rw [← Option.some.inj e]
  exact h2

set_option maxHeartbeats 1000000 in
theorem right_yes (s : ByteArray) (w : World) (hs : s.size ≤ 9223372036854775807) (h : rightB s = true) :
    Calls Try.prog 121 #[.string s] w fun e w' => e = .returned (.bool true) ∧ w = w' := by
  have HR := Lib.hid h
  clear h
  go_enter Try.func121, Try.ntmps121
  go_wp2
  go_loop [6] (fun i => ∃ k : Nat, k ≤ s.size ∧ i = .int .i64 k) (fun i => s.size - (intOf i).toNat)
  case atStart => exact ⟨0, Nat.zero_le _, rfl⟩
  case round =>
    obtain ⟨k, hk, rfl⟩ := hrel
    by_cases hlt : k < s.size
    · have hb : ((s[k].toNat : Int)) < 16 := by have := rightB_at HR.out hlt; omega
      go_wp2
      go_round
      case rel => exact ⟨k + 1, by omega, by go_num⟩
      case measure => simp [intOf]; omega
    · go_wp2
      go_ret
      exact ⟨rfl, rfl⟩

set_option maxHeartbeats 1000000 in
theorem right_no (s : ByteArray) (w : World) (hs : s.size ≤ 9223372036854775807) (h : rightB s = false) :
    Calls Try.prog 121 #[.string s] w fun e w' => e = .returned (.bool false) ∧ w = w' := by
  obtain ⟨i, hi, hbad, hgood⟩ := rightB_bad h
  have HG := Lib.hid hgood
  clear hgood h
  go_enter Try.func121, Try.ntmps121
  go_wp2
  go_loop [6] (fun c => ∃ k : Nat, k ≤ i ∧ c = .int .i64 k) (fun c => s.size - (intOf c).toNat)
  case atStart => exact ⟨0, Nat.zero_le _, rfl⟩
  case round =>
    obtain ⟨k, hk, rfl⟩ := hrel
    have hlt' : k < s.size := by omega
    by_cases hlt : k < i
    · have hb : ((s[k].toNat : Int)) < 16 := by have := HG.out k hlt; omega
      go_wp2
      go_round
      case rel => exact ⟨k + 1, by omega, by go_num⟩
      case measure => simp [intOf]; omega
    · obtain rfl : k = i := by omega
      have hb : 16 ≤ ((s[k].toNat : Int)) := by omega
      go_wp2
      go_ret
      exact ⟨rfl, rfl⟩

/-- Half bytes put together. -/
def joinL : List UInt8 → List UInt8
  | x :: y :: l => (x * 16 + y) :: joinL l
  | _ => []

def joinB (s : ByteArray) : ByteArray := ⟨(joinL s.data.toList).toArray⟩

theorem joinL_fill : ∀ (l : List UInt8), (List.range (l.length / 2)).map (fun i => l.getD (2 * i) 0 * 16 + l.getD (2 * i + 1) 0) = joinL l
  | [] => by simp [joinL]
  | [_] => by simp [joinL]
  | x :: y :: l => by
    have e : (x :: y :: l).length / 2 = l.length / 2 + 1 := by simp; omega
    rw [e, List.range_succ_eq_map, List.map_cons, List.map_map, joinL, ← joinL_fill l]
    congr 1
set_option maxHeartbeats 1000000 in
theorem join_any (s : ByteArray) (w : World) (hs : s.size ≤ 9223372036854775807) (hs2 : s.size ≤ 281474976710656) :
    Calls Try.prog 122 #[.string s] w fun e w' => e = .returned (.string (joinB s)) ∧ Below w.heap.size w w' := by
  obtain ⟨i0, hi, hz0, hz1, hz2⟩ := info_parts info_u8
  obtain ⟨n, hN⟩ : ∃ n, s.size / 2 = n := ⟨_, rfl⟩
  have hn : ((s.size : Int) / 2) = (n : Int) := by omega
  have HN := Lib.hid hN
  clear hN
  have nb : n ≤ 281474976710656 := by omega
  go_enter Try.func122, Try.ntmps122
  go_wp2_with (at_make; (refine wpList_make_full _ rfl _ _ 123 rfl w.heap.size 5 i0 (.int .u8 0) 1 Try.underlying123 hi hz0 hz1 .i64 .i64 _ _ n rfl rfl rfl rfl (by rw [hz2]; omega) (by unfold maxLen; omega) (Nat.le_refl _) ?_); intro w1 hown hg)
  have hbuf := buf_made (fun i => s.data.toList.getD (2 * i) 0 * 16 + s.data.toList.getD (2 * i + 1) 0) hown
  have HB := Lib.hid hbuf
  have HG := Lib.hid ((Below.refl w.heap.size w).grown hg (Nat.le_refl _) (fun k hk => by cases hk))
  clear hbuf hown hg
  generalize hf : (fun i => s.data.toList.getD (2 * i) 0 * 16 + s.data.toList.getD (2 * i + 1) 0) = f at HB
  have HF := Lib.hid hf
  clear hf
  go_loopw [11] (fun i wr => ∃ k : Nat, k ≤ n ∧ i = .int .i64 k ∧ Buf wr w.heap.size w.heap.size (fillL f n k) ∧ Below w.heap.size w wr) (fun i _ => n - (intOf i).toNat)
  case atStart => exact ⟨0, Nat.zero_le _, rfl, HB.out, HG.out⟩
  case round =>
    obtain ⟨k, hk, rfl, hbuf, hbl⟩ := hrel
    by_cases hlt : k < n
    · have c1 := hbuf.cell (i := k) (by rw [fillL_length]; exact hlt)
      have c2 := hbuf.frozen k
      have l1 : 2 * (k : Int) < (s.size : Int) := by have := HN.out; omega
      have l2 : 2 * (k : Int) + 1 < (s.size : Int) := by have := HN.out; omega
      have HB := Lib.hid hbuf
      have HL := Lib.hid hbl
      clear hbuf hbl
      have e1 : IntKind.i64.wrap (2 * (k : Int)) = 2 * (k : Int) := IntWalk.i64_in _ (by omega)
      have e2 : IntKind.i64.wrap (2 * (k : Int) + 1) = 2 * (k : Int) + 1 := IntWalk.i64_in _ (by omega)
      have e3 : (2 * (k : Int)).toNat = 2 * k := by omega
      have e4 : (2 * (k : Int) + 1).toNat = 2 * k + 1 := by omega
      have l3 : 0 ≤ 2 * (k : Int) := by omega
      have l4 : 0 ≤ 2 * (k : Int) + 1 := by omega
      go_wp2
      (refine region_tail 14 mix ?hB ?_; case hB => kernel_rfl); (simp only [List.take_succ_cons, List.take_zero, List.drop_succ_cons, List.drop_zero]; (iterate 14 (with_reducible refine wpStill_step ?_; intro K hK; go_simp; with_reducible refine hK _ ?_; clear hK K)); with_reducible refine wpStill_nil ?_)
      go_wp2
      go_roundw
      case rel =>
        refine ⟨k + 1, by omega, by go_num, ?_, HL.out.drew.setCell (Nat.le_refl _) _⟩
        rw [← fillL_set]
        refine HB.out.drew.set k (f k) ?_
        have d1 : 2 * k < s.size := by omega
        have d2 : 2 * k + 1 < s.size := by omega
        rw [← HF.out]
        simp only [List.getD, bget d1, bget d2, Option.getD_some, UInt8.toNat_add, UInt8.toNat_mul]
        simp
      case measure => simp [intOf]; omega
    · obtain rfl : k = n := by omega
      have hcv := hbuf.conv k (by rw [fillL_length])
      have HB := Lib.hid hbuf
      have HL := Lib.hid hbl
      clear hbuf hbl
      go_wp2
      go_ret
      refine ⟨?_, HL.out⟩
      rw [fillL_full, ← HF.out, ← HN.out]
      have := joinL_fill s.data.toList
      simp only [Array.length_toList] at this
      unfold joinB
      rw [← this]
      rfl

/-- A key's half bytes. -/
def ofL : List UInt8 → List UInt8
  | x :: l => (x / 16) :: (x % 16) :: ofL l
  | [] => []

def ofB (s : ByteArray) : ByteArray := ⟨(ofL s.data.toList).toArray⟩

theorem ofL_length : ∀ l : List UInt8, (ofL l).length = 2 * l.length
  | [] => rfl
  | x :: l => by simp only [ofL, List.length_cons, ofL_length l]; omega

theorem ofL_snoc : ∀ (l : List UInt8) (x : UInt8), ofL (l ++ [x]) = ofL l ++ [x / 16, x % 16]
  | [], _ => rfl
  | y :: l, x => by simp only [List.cons_append, ofL, ofL_snoc l x]

theorem take_snoc {s : ByteArray} {k : Nat} (h : k < s.size) : s.data.toList.take (k + 1) = s.data.toList.take k ++ [s[k]] := by
  rw [List.take_add_one, bget h]
  rfl

theorem u8_div (b : UInt8) : IntKind.u8.wrap ((b.toNat : Int) / 16) = ((b / 16).toNat : Int) := by
  have := b.toNat_lt
  simp [IntKind.wrap_u8]
  omega
theorem u8_mod (b : UInt8) : ((b.toNat : Int)).tmod 16 = ((b % 16).toNat : Int) := by
  rw [Int.tmod_eq_emod_of_nonneg (by omega)]
  simp

def ofAt (l : List UInt8) (j : Nat) : UInt8 := if j % 2 = 0 then l.getD (j / 2) 0 / 16 else l.getD (j / 2) 0 % 16

theorem ofL_fill : ∀ (l : List UInt8), (List.range (2 * l.length)).map (ofAt l) = ofL l
  | [] => by simp [ofL]
  | x :: l => by
    have e : 2 * (x :: l).length = 2 * l.length + 1 + 1 := by simp; omega
    rw [e, List.range_succ_eq_map, List.map_cons, List.map_map, List.range_succ_eq_map, List.map_cons, List.map_map, ofL, ← ofL_fill l]
    congr 1
    congr 1
    refine List.map_congr_left fun j _ => ?_
    simp only [Function.comp, ofAt, Nat.succ_eq_add_one]
    have h1 : (j + 1 + 1) % 2 = j % 2 := by omega
    have h2 : (j + 1 + 1) / 2 = j / 2 + 1 := by omega
    rw [h1, h2]
    simp

set_option maxHeartbeats 2000000 in
theorem of_any (s : ByteArray) (w : World) (hs : s.size ≤ 1000000) :
    Calls Try.prog 77 #[.string s] w fun e w' => e = .returned (.string (ofB s)) ∧ Below w.heap.size w w' := by
  obtain ⟨i0, hi, hz0, hz1, hz2⟩ := info_parts info_u8
  obtain ⟨n, hN⟩ : ∃ n, 2 * s.size = n := ⟨_, rfl⟩
  have hn : (2 * (s.size : Int)) = (n : Int) := by omega
  have HN := Lib.hid hN
  clear hN
  have nb : n ≤ 2000000 := by have := HN.out; omega
  go_enter Try.func77, Try.ntmps77
  go_wp2_with (at_make; refine wpList_make_full _ rfl _ _ 123 rfl w.heap.size 5 i0 (.int .u8 0) 1 Try.underlying123 hi hz0 hz1 .i64 .i64 _ _ n rfl rfl rfl rfl (by rw [hz2]; omega) (by unfold maxLen; omega) (Nat.le_refl _) ?_; intro w1 hown hg)
  have hbuf := buf_made (ofAt s.data.toList) hown
  have HB := Lib.hid hbuf
  have HG := Lib.hid ((Below.refl w.heap.size w).grown hg (Nat.le_refl _) (fun k hk => by cases hk))
  clear hbuf hown hg
  generalize hf : ofAt s.data.toList = f at HB
  have HF := Lib.hid hf
  clear hf
  go_loopw [12] (fun i wr => ∃ k : Nat, k ≤ n ∧ i = .int .i64 k ∧ Buf wr w.heap.size w.heap.size (fillL f n k) ∧ Below w.heap.size w wr) (fun i _ => n - (intOf i).toNat)
  case atStart => exact ⟨0, Nat.zero_le _, rfl, HB.out, HG.out⟩
  case round =>
    obtain ⟨k, hk, rfl, hbuf, hbl⟩ := hrel
    by_cases hlt : k < n
    · have c1 := hbuf.cell (i := k) (by rw [fillL_length]; exact hlt)
      have c2 := hbuf.frozen k
      obtain ⟨q, hq⟩ : ∃ q, k / 2 = q := ⟨_, rfl⟩
      have e1 : (k : Int) / 2 = (q : Int) := by omega
      have d1 : q < s.size := by have := HN.out; omega
      have HB := Lib.hid hbuf
      have HL := Lib.hid hbl
      have HQ := Lib.hid hq
      clear hbuf hbl hq
      rcases Nat.mod_two_eq_zero_or_one k with hk2 | hk2
      · have e2 : ((k : Int) % 2 == 0) = true := by simp; omega
        have HK := Lib.hid hk2
        clear hk2
        go_wp2
        go_roundw
        case rel =>
          refine ⟨k + 1, by omega, by go_num, ?_, HL.out.setCell (Nat.le_refl _) _⟩
          rw [← fillL_set]
          refine HB.out.set k (f k) ?_
          rw [← HF.out]
          have hb256 := (s[q]).toNat_lt
          simp [ofAt, HK.out, HQ.out, List.getD, bget d1] <;> omega
        case measure => simp [intOf]; omega
      · have e2 : ((k : Int) % 2 == 0) = false := by simp; omega
        have HK := Lib.hid hk2
        clear hk2
        go_wp2
        go_roundw
        case rel =>
          refine ⟨k + 1, by omega, by go_num, ?_, HL.out.setCell (Nat.le_refl _) _⟩
          rw [← fillL_set]
          refine HB.out.set k (f k) ?_
          rw [← HF.out]
          have hb256 := (s[q]).toNat_lt
          simp [ofAt, HK.out, HQ.out, List.getD, bget d1] <;> omega
        case measure => simp [intOf]; omega
    · obtain rfl : k = n := by omega
      have hcv := hbuf.conv k (by rw [fillL_length])
      have HB := Lib.hid hbuf
      have HL := Lib.hid hbl
      clear hbuf hbl
      go_wp2
      go_ret
      refine ⟨?_, HL.out⟩
      rw [fillL_full, ← HF.out, ← HN.out]
      have := ofL_fill s.data.toList
      simp only [Array.length_toList] at this
      unfold ofB
      rw [← this]
      rfl

set_option maxHeartbeats 2000000 in
theorem rof_any (s : ByteArray) (w : World) (hs : s.size ≤ 1000000) :
    Calls Try.prog 82 #[.string s] w fun e w' => e = .returned (.string (ofB s)) ∧ Below w.heap.size w w' := by
  go_enter Try.func82, Try.ntmps82
  go_wp2
  go_loopw [3, 4] (fun v i wr => ∃ k : Nat, k ≤ s.size ∧ i = .int .i64 k ∧ OwnB wr w.heap.size v (ofL (s.data.toList.take k)) ∧ Below w.heap.size w wr ∧ w.heap.size ≤ wr.heap.size) (fun _ i _ => s.size - (intOf i).toNat)
  case atStart => exact ⟨0, Nat.zero_le _, rfl, OwnB.start (Nat.le_refl _) 0, (Below.refl _ _).alloc (Nat.le_refl _) _, by simp⟩
  case round =>
    obtain ⟨k, hk, rfl, hown, hbl, hsz⟩ := hrel
    by_cases hlt : k < s.size
    · have hlen : (ofL (s.data.toList.take k)).length = 2 * k := by rw [ofL_length, List.length_take]; simp; omega
      have HO := Lib.hid hown
      have HL := Lib.hid hbl
      have HN := Lib.hid hlen
      clear hown hbl hlen
      go_wp2
      go_region_law (refine step_append_bytes rfl _ _ rfl w.heap.size _ _ rfl (HO.out.drew.alloc _) ⟨wr.heap.size, 0, none⟩ 2 2 [s[k] / 16, s[k] % 16] rfl rfl (two_cells (w := wr.drew) (u8_div s[k]) (u8_mod s[k])) (by rw [HN.out]; omega) (by simp; omega) ?_; intro v' w1 hown1 hb1 hz1)
      all_goals
        go_wp2
        go_roundw
        case rel =>
          refine ⟨k + 1, by omega, by go_num, ?_, hb1 _ (HL.out.drew.alloc hsz _), by simp at hz1; omega⟩
          rw [take_snoc hlt, ofL_snoc]
          exact hown1
        case measure => simp [intOf]; omega
    · obtain rfl : k = s.size := by omega
      have hcv := hown.conv
      have HO := Lib.hid hown
      have HL := Lib.hid hbl
      clear hown hbl
      go_wp2
      go_ret
      refine ⟨?_, HL.out⟩
      unfold ofB
      rw [List.take_of_length_le (by simp)]
      rfl
end Go.Proofs.Ytefmlbckbhlgdaa
namespace Go.Proofs.Ytefmlbckbhlgdaa
open Go.RowKit
set_option maxRecDepth 100000
/-- The flag of a part: odd or even, an end or none. -/
def flagB (part : ByteArray) (ends : Bool) : UInt8 := UInt8.ofNat (part.size % 2) + (if ends then 2 else 0)
def aheadB (part : ByteArray) (ends : Bool) : ByteArray := if part.size % 2 = 0 then ⟨#[flagB part ends, 0]⟩ else ⟨#[flagB part ends]⟩
def packB (part : ByteArray) (ends : Bool) : ByteArray := joinB (aheadB part ends ++ part)

theorem pack_odd_flag (part : ByteArray) (h : part.size % 2 = 1) : flagB part false = 1 ∧ flagB part true = 3 := by
  unfold flagB; rw [h]; decide
theorem pack_even_flag (part : ByteArray) (h : part.size % 2 = 0) : flagB part false = 0 ∧ flagB part true = 2 := by
  unfold flagB; rw [h]; decide

set_option maxHeartbeats 2000000 in
theorem pack_odd (part : ByteArray) (ends : Bool) (w : World) (hs : part.size ≤ 1000000) (h : rightB part = true) (hp : part.size % 2 = 1) :
    Calls Try.prog 86 #[.string part, .bool ends] w fun e w' => e = .returned (.tuple #[.string (packB part ends), .int .i64 0]) ∧ Below w.heap.size w w' := by
  have HR := Lib.hid h
  have hfl := pack_odd_flag part hp
  have ha : aheadB part ends = ⟨#[flagB part ends]⟩ := by unfold aheadB; rw [if_neg (by omega)]
  have e1 : ((part.size : Int) % 2) = 1 := by omega
  have hpk : packB part ends = joinB (⟨#[flagB part ends]⟩ ++ part) := by unfold packB; rw [ha]
  have HP := Lib.hid hpk
  have hsz : ((⟨#[flagB part ends]⟩ : ByteArray) ++ part).size ≤ 1000001 := by rw [ByteArray.size_append]; show 1 + part.size ≤ _; omega
  have HZ := Lib.hid hsz
  clear h hp ha hpk hsz
  cases ends
  · have cv := Lib.hid (fun (w : World) => (OwnB.one (w := w) (Nat.le_refl _) 1 (x := 1) (by decide)).conv)
    rw [hfl.1] at HP HZ
    clear hfl
    have cv' := cv.out
    clear cv
    go_enter Try.func86, Try.ntmps86
    go_wp2_with (first
      | (go_at_call 121; refine (right_yes _ _ (by omega) HR.out).mono ?_; rintro e w1 ⟨rfl, rfl⟩)
      | (go_at_call 122; refine (join_any _ _ (Nat.le_trans HZ.out (by omega)) (Nat.le_trans HZ.out (by omega))).mono ?_; rintro e w1 ⟨rfl, hb1⟩))
    go_ret2
    rw [HP.out]
    exact ⟨rfl, ((Below.refl _ _).alloc (Nat.le_refl _) _).trans (hb1.mono (by simp))⟩
  · have cv := fun (w : World) => (OwnB.one (w := w) (Nat.le_refl _) 3 (x := 3) (by decide)).conv
    rw [hfl.2] at HP HZ
    clear hfl
    go_enter Try.func86, Try.ntmps86
    go_wp2_with (first
      | (go_at_call 121; refine (right_yes _ _ (by omega) HR.out).mono ?_; rintro e w1 ⟨rfl, rfl⟩)
      | (go_at_call 122; refine (join_any _ _ (Nat.le_trans HZ.out (by omega)) (Nat.le_trans HZ.out (by omega))).mono ?_; rintro e w1 ⟨rfl, hb1⟩))
    go_ret2
    rw [HP.out]
    exact ⟨rfl, ((Below.refl _ _).alloc (Nat.le_refl _) _).trans (hb1.mono (by simp))⟩

set_option maxHeartbeats 2000000 in
theorem pack_even (part : ByteArray) (ends : Bool) (w : World) (hs : part.size ≤ 1000000) (h : rightB part = true) (hp : part.size % 2 = 0) :
    Calls Try.prog 86 #[.string part, .bool ends] w fun e w' => e = .returned (.tuple #[.string (packB part ends), .int .i64 0]) ∧ Below w.heap.size w w' := by
  have HR := Lib.hid h
  have hfl := pack_even_flag part hp
  have ha : aheadB part ends = ⟨#[flagB part ends, 0]⟩ := by unfold aheadB; rw [if_pos hp]
  have e1 : ((part.size : Int) % 2) = 0 := by omega
  have hpk : packB part ends = joinB (⟨#[flagB part ends, 0]⟩ ++ part) := by unfold packB; rw [ha]
  have HP := Lib.hid hpk
  have hsz : ((⟨#[flagB part ends, 0]⟩ : ByteArray) ++ part).size ≤ 1000002 := by rw [ByteArray.size_append]; show 2 + part.size ≤ _; omega
  have HZ := Lib.hid hsz
  clear h hp ha hpk hsz
  cases ends
  · rw [hfl.1] at HP HZ
    clear hfl
    go_enter Try.func86, Try.ntmps86
    go_wp2_with (first
      | (go_at_call 121; refine (right_yes _ _ (by omega) HR.out).mono ?_; rintro e w1 ⟨rfl, rfl⟩)
      | (at_builtin; refine wpList_append_bytes rfl _ _ rfl w.heap.size _ [0] rfl ((OwnB.one (Nat.le_refl _) (x := 0) 0 (by decide)).alloc _) ⟨w.heap.size + 1, 0, none⟩ 1 1 [0] rfl rfl (one_cell_at (w := w.alloc (.cells #[.int .u8 0] 5)) (x := 0) (b := 0) (by decide) (by simp)) (by decide) (by simp <;> omega) ?_; intro v' w1 hown1 hb1 hz1; have hcv := hown1.conv)
      | (go_at_call 122; refine (join_any _ _ (Nat.le_trans HZ.out (by omega)) (Nat.le_trans HZ.out (by omega))).mono ?_; rintro e w2 ⟨rfl, hb2⟩))
    go_ret2
    rw [HP.out]
    have B1 := hb1 _ (((Below.refl w.heap.size w).alloc (Nat.le_refl _) _).alloc (by simp <;> omega) _)
    exact ⟨rfl, B1.trans (hb2.mono B1.size)⟩
  · rw [hfl.2] at HP HZ
    clear hfl
    go_enter Try.func86, Try.ntmps86
    go_wp2_with (first
      | (go_at_call 121; refine (right_yes _ _ (by omega) HR.out).mono ?_; rintro e w1 ⟨rfl, rfl⟩)
      | (at_builtin; refine wpList_append_bytes rfl _ _ rfl w.heap.size _ [2] rfl ((OwnB.one (Nat.le_refl _) (x := 2) 2 (by decide)).alloc _) ⟨w.heap.size + 1, 0, none⟩ 1 1 [0] rfl rfl (one_cell_at (w := w.alloc (.cells #[.int .u8 2] 5)) (x := 0) (b := 0) (by decide) (by simp)) (by decide) (by simp <;> omega) ?_; intro v' w1 hown1 hb1 hz1; have hcv := hown1.conv)
      | (go_at_call 122; refine (join_any _ _ (Nat.le_trans HZ.out (by omega)) (Nat.le_trans HZ.out (by omega))).mono ?_; rintro e w2 ⟨rfl, hb2⟩))
    go_ret2
    rw [HP.out]
    have B1 := hb1 _ (((Below.refl w.heap.size w).alloc (Nat.le_refl _) _).alloc (by simp <;> omega) _)
    exact ⟨rfl, B1.trans (hb2.mono B1.size)⟩

theorem pack_yes (part : ByteArray) (ends : Bool) (w : World) (hs : part.size ≤ 1000000) (h : rightB part = true) :
    Calls Try.prog 86 #[.string part, .bool ends] w fun e w' => e = .returned (.tuple #[.string (packB part ends), .int .i64 0]) ∧ Below w.heap.size w w' := by
  rcases Nat.mod_two_eq_zero_or_one part.size with hp | hp
  · exact pack_even part ends w hs h hp
  · exact pack_odd part ends w hs h hp

end Go.Proofs.Ytefmlbckbhlgdaa
namespace Go.Proofs.Ytefmlbckbhlgdaa
theorem joinL_ofL : ∀ l : List UInt8, joinL (ofL l) = l
  | [] => rfl
  | x :: l => by
    simp only [ofL, joinL, joinL_ofL l]
    congr 1
    apply UInt8.toNat_inj.1
    have := x.toNat_lt
    simp
    omega

theorem ofL_joinL : ∀ l : List UInt8, l.all (· < 16) = true → l.length % 2 = 0 → ofL (joinL l) = l
  | [], _, _ => rfl
  | [x], _, h => by simp at h
  | x :: y :: l, h, h2 => by
    simp only [List.all_cons, Bool.and_eq_true, decide_eq_true_eq] at h
    obtain ⟨hx, hy, hl⟩ := h
    have hx' : x.toNat < 16 := by simpa [UInt8.lt_iff_toNat_lt] using hx
    have hy' : y.toNat < 16 := by simpa [UInt8.lt_iff_toNat_lt] using hy
    simp only [joinL, ofL, ofL_joinL l hl (by simp only [List.length_cons] at h2; omega)]
    congr 1
    · apply UInt8.toNat_inj.1
      simp
      omega
    · congr 1
      apply UInt8.toNat_inj.1
      simp
      omega

theorem ofL_small : ∀ l : List UInt8, (ofL l).all (· < 16) = true
  | [] => rfl
  | x :: l => by
    have := x.toNat_lt
    simp only [ofL, List.all_cons, ofL_small l, Bool.and_true, Bool.and_eq_true, decide_eq_true_eq]
    have h1 : (x / 16).toNat < 16 := by simp; omega
    have h2 : (x % 16).toNat < 16 := by simp; omega
    exact ⟨UInt8.lt_iff_toNat_lt.2 h1, UInt8.lt_iff_toNat_lt.2 h2⟩

theorem joinL_length : ∀ l : List UInt8, (joinL l).length = l.length / 2
  | [] => rfl
  | [_] => by simp [joinL]
  | x :: y :: l => by simp only [joinL, List.length_cons, joinL_length l]; omega

def packL (part : List UInt8) (ends : Bool) : List UInt8 :=
  joinL ((if part.length % 2 = 0 then [if ends then 2 else 0, 0] else [if ends then 3 else 1]) ++ part)

end Go.Proofs.Ytefmlbckbhlgdaa
namespace Go.Proofs.Ytefmlbckbhlgdaa
open Go.RowKit
/-- A list of bytes as a string. -/
def mkS (l : List UInt8) : ByteArray := ⟨l.toArray⟩
/-- A string's bytes. -/
def bl (s : ByteArray) : List UInt8 := s.data.toList

theorem bl_mk (l : List UInt8) : bl (mkS l) = l := by simp [bl, mkS]
theorem mk_bl (s : ByteArray) : mkS (bl s) = s := rfl
theorem bl_length (s : ByteArray) : (bl s).length = s.size := by simp [bl]
theorem mk_size (l : List UInt8) : (mkS l).size = l.length := by simp [mkS, ByteArray.size]
theorem bl_inj {s t : ByteArray} (h : bl s = bl t) : s = t := by rw [← mk_bl s, h, mk_bl]
theorem sget {s : ByteArray} {k : Nat} (h : k < s.size) : (bl s)[k]? = some s[k] := by
  have h' : k < s.data.toList.length := by simpa using h
  unfold bl
  rw [List.getElem?_eq_getElem h']
  rfl
theorem sgetD {s : ByteArray} {k : Nat} (h : k < s.size) : (bl s).getD k 0 = s[k] := by rw [List.getD, sget h]; rfl
theorem stake_all (s : ByteArray) : (bl s).take s.size = bl s := List.take_of_length_le (by rw [bl_length]; exact Nat.le_refl _)
theorem bl_extract (s : ByteArray) (a b : Nat) : bl (s.extract a b) = ((bl s).take b).drop a := by
  unfold bl
  simp [ByteArray.data_extract, Array.toList_extract, List.drop_take]
theorem bl_append (s t : ByteArray) : bl (s ++ t) = bl s ++ bl t := by
  unfold bl
  simp
theorem mk_append (l m : List UInt8) : mkS l ++ mkS m = mkS (l ++ m) := bl_inj (by rw [bl_append, bl_mk, bl_mk, bl_mk])
theorem toList_bl (s : ByteArray) : s.toList = bl s := ByteArray.toList_eq s
end Go.Proofs.Ytefmlbckbhlgdaa
namespace Go.Proofs.Ytefmlbckbhlgdaa
open Go.RowKit
/-- Strings as cells. -/
def svals (l : List ByteArray) : List Value := l.map fun b => .string b

/-- The slice 'v', the call's own from block 'base' on, holds the strings 'l'. -/
def OwnS (w : World) (base : Nat) (v : Value) (l : List ByteArray) : Prop := w.ownsRow base 9 1 v l.length (svals l)

theorem OwnS.drew {w : World} {base : Nat} {v : Value} {l : List ByteArray} (h : OwnS w base v l) : OwnS w.drew base v l := h
theorem OwnS.alloc {w : World} {base : Nat} {v : Value} {l : List ByteArray} (h : OwnS w base v l) (o : Obj) : OwnS (w.alloc o) base v l := World.ownsRow.alloc h o
theorem OwnS.nil (w : World) (base : Nat) : OwnS w base (.slice none 0 0) [] := World.ownsRow_nil w base _ _

theorem OwnS.below {w w' : World} {base B : Nat} {v : Value} {l : List ByteArray} (h : OwnS w base v l) (hb : Below B w w') (hB : w.heap.size ≤ B) : OwnS w' base v l := by
  refine ⟨h.1, ?_⟩
  rcases h.2 with h' | ⟨g, cap, cur, hv, hg, hc, r⟩
  · exact .inl h'
  · have hlt : g < w.heap.size := by
      rcases Nat.lt_or_ge g w.heap.size with h | h
      · exact h
      · rw [Array.getElem?_eq_none h] at hc; cases hc
    exact .inr ⟨g, cap, cur, hv, hg, by rw [hb.block g (by omega)]; exact hc, r⟩

theorem OwnS.start {w : World} {base : Nat} (hb : base ≤ w.heap.size) : OwnS (w.alloc (.cells #[] 9)) base (.slice (some ⟨w.heap.size, 0, none⟩) 0 0) [] := by
  refine ⟨rfl, .inr ⟨w.heap.size, 0, #[], rfl, hb, ?_, Nat.le_refl _, by unfold maxLen; omega, rfl, rfl⟩⟩
  exact (MapKept.heap_alloc w _).1

theorem OwnS.one {w : World} {base : Nat} (hb : base ≤ w.heap.size) (b : ByteArray) : OwnS (w.alloc (.cells #[.string b] 9)) base (.slice (some ⟨w.heap.size, 0, Option.none⟩) 1 1) [b] := by
  refine ⟨rfl, .inr ⟨w.heap.size, 1, _, rfl, hb, (MapKept.heap_alloc w _).1, Nat.le_refl _, by unfold maxLen; omega, rfl, rfl⟩⟩

/-- It reads as its strings. -/
theorem OwnS.row {w : World} {base : Nat} {v : Value} {l : List ByteArray} (h : OwnS w base v l) : StrRow w v l := by
  rcases h.2 with ⟨hv, hn⟩ | ⟨g, cap, cur, hv, hg, hc, hn, hcap, hsz, hx⟩
  · exact .inl ⟨hv, List.eq_nil_of_length_eq_zero hn⟩
  · refine .inr ⟨⟨g, 0, none⟩, l.length, cap, hv, hn, hcap, rfl, fun i hi => ?_⟩
    subst hv
    have := World.ownsRow.cells h rfl i (.string (l.getD i ByteArray.empty)) (by simp [svals, List.getElem?_eq_getElem hi, List.getD])
    exact this

theorem OwnS.mono {w : World} {base b : Nat} {v : Value} {l : List ByteArray} (h : OwnS w base v l) (hb : b ≤ base) : OwnS w b v l := by
  refine ⟨h.1, ?_⟩
  rcases h.2 with h' | ⟨g, cap, cur, hv, hg, hc, r⟩
  · exact .inl h'
  · exact .inr ⟨g, cap, cur, hv, by omega, hc, r⟩

/-- A store below the row's block. -/
theorem OwnS.setLow {w : World} {base : Nat} {v : Value} {l : List ByteArray} (h : OwnS w base v l) (a : Addr) (x : Value) (ha : a.block < base) : OwnS (w.setCell a x) base v l := by
  refine ⟨h.1, ?_⟩
  rcases h.2 with h' | ⟨g, cap, cur, hv, hg, hc, r⟩
  · exact .inl h'
  · exact .inr ⟨g, cap, cur, hv, hg, by rw [heap_setCell_other _ _ _ _ (by omega)]; exact hc, r⟩

theorem StrRow.below {w w' : World} {v : Value} {l : List ByteArray} {B : Nat} (h : StrRow w v l) (hb : Below B w w') (hB : w.heap.size ≤ B) : StrRow w' v l := by
  rcases h with h | ⟨a, len, cap, hv, h1, h2, h3, hc⟩
  · exact .inl h
  · refine .inr ⟨a, len, cap, hv, h1, h2, h3, fun i hi => ?_⟩
    have := hc i hi
    have hlt := block_lt_of_cell this
    rw [hb.cell (by omega)]
    exact this
end Go.Proofs.Ytefmlbckbhlgdaa
namespace Go.Proofs.Ytefmlbckbhlgdaa
open Go.RowKit
/-- Block 'k' holds the cells 'cs', and may be written. -/
def RowAt (w : World) (k : Nat) (cs : Array Value) (T : TypeId) : Prop := w.heap[k]? = some (.cells cs T (0, 0))

theorem RowAt.lt {w : World} {k : Nat} {cs : Array Value} {T : TypeId} (h : RowAt w k cs T) : k < w.heap.size := by
  rcases Nat.lt_or_ge k w.heap.size with h' | h'
  · exact h'
  · unfold RowAt at h; rw [Array.getElem?_eq_none h'] at h; cases h

theorem RowAt.new (w : World) (cs : Array Value) (T : TypeId) : RowAt (w.alloc (.cells cs T)) w.heap.size cs T := heap_alloc_new w _
theorem RowAt.new' (w : World) (cs : Array Value) (T : TypeId) {k : Nat} (hk : k = w.heap.size) : RowAt (w.alloc (.cells cs T)) k cs T := by subst hk; exact heap_alloc_new w _
theorem RowAt.alloc {w : World} {k : Nat} {cs : Array Value} {T : TypeId} (h : RowAt w k cs T) (o : Obj) : RowAt (w.alloc o) k cs T := by
  unfold RowAt
  rw [Below.heap_alloc w o k h.lt]
  exact h
theorem RowAt.drew {w : World} {k : Nat} {cs : Array Value} {T : TypeId} (h : RowAt w k cs T) : RowAt w.drew k cs T := h
theorem RowAt.below {w w' : World} {k B : Nat} {cs : Array Value} {T : TypeId} (h : RowAt w k cs T) (hb : Below B w w') (hB : k < B) : RowAt w' k cs T := by
  unfold RowAt
  rw [hb.block k hB]
  exact h
theorem RowAt.belowS {w w' : World} {k : Nat} {cs : Array Value} {T : TypeId} (h : RowAt w k cs T) (hb : Below w.heap.size w w') : RowAt w' k cs T := h.below hb h.lt
theorem RowAt.set {w : World} {k : Nat} {cs : Array Value} {T : TypeId} (h : RowAt w k cs T) (i : Nat) (v : Value) {cs' : Array Value} (hc : cs.setIfInBounds i v = cs') : RowAt (w.setCell ⟨k, i, none⟩ v) k cs' T := by
  subst hc
  exact heap_setCell_same w k i cs T v h
theorem RowAt.other {w : World} {k : Nat} {cs : Array Value} {T : TypeId} (h : RowAt w k cs T) (a : Addr) (v : Value) (hne : k ≠ a.block) : RowAt (w.setCell a v) k cs T := by
  unfold RowAt
  rw [heap_setCell_other _ _ _ _ hne]
  exact h
theorem RowAt.grown {w w' : World} {k : Nat} {cs : Array Value} {T : TypeId} (h : RowAt w k cs T) {r : Option Nat} (hg : w.grownBy w' r) (hne : some k ≠ r) : RowAt w' k cs T := by
  unfold RowAt
  rw [hg.block k h.lt hne]
  exact h

theorem RowAt.cell {w : World} {k : Nat} {cs : Array Value} {T : TypeId} (h : RowAt w k cs T) (i : Nat) : w.cell? ⟨k, i, none⟩ = cs[i]? := cell_of_row w k i cs T (0, 0) h
theorem RowAt.frozen {w : World} {k : Nat} {cs : Array Value} {T : TypeId} (h : RowAt w k cs T) (i : Nat) : w.frozen? ⟨k, i, none⟩ = false := frozen_of_row w k i cs T h

theorem RowAt.c1 {w : World} {k : Nat} {v0 : Value} {T : TypeId} (h : RowAt w k #[v0] T) : w.cell? ⟨k, 0, none⟩ = some v0 ∧ w.frozen? ⟨k, 0, none⟩ = false := ⟨h.cell 0, h.frozen 0⟩
theorem RowAt.c2 {w : World} {k : Nat} {v0 v1 : Value} {T : TypeId} (h : RowAt w k #[v0, v1] T) : w.cell? ⟨k, 0, none⟩ = some v0 ∧ w.cell? ⟨k, 1, none⟩ = some v1 ∧ w.frozen? ⟨k, 0, none⟩ = false ∧ w.frozen? ⟨k, 1, none⟩ = false :=
  ⟨h.cell 0, h.cell 1, h.frozen 0, h.frozen 1⟩
theorem RowAt.c3 {w : World} {k : Nat} {v0 v1 v2 : Value} {T : TypeId} (h : RowAt w k #[v0, v1, v2] T) : w.cell? ⟨k, 0, none⟩ = some v0 ∧ w.cell? ⟨k, 1, none⟩ = some v1 ∧ w.cell? ⟨k, 2, none⟩ = some v2 ∧
    w.frozen? ⟨k, 0, none⟩ = false ∧ w.frozen? ⟨k, 1, none⟩ = false ∧ w.frozen? ⟨k, 2, none⟩ = false :=
  ⟨h.cell 0, h.cell 1, h.cell 2, h.frozen 0, h.frozen 1, h.frozen 2⟩
end Go.Proofs.Ytefmlbckbhlgdaa
