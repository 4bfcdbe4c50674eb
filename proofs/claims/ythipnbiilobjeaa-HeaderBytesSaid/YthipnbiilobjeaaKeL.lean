/- Sums, in plain words: words, states of 25 words, what a round makes of them. Whole rows read and written in regions that draw their order. -/
import Derived.Test.YthipnbiilobjeaaLaterTail
import Derived.Test.YthipnbiilobjeaaRow
import Derived.Test.YthipnbiilobjeaaReg
import Derived.Laws.Bits64b
import Derived.Test.YthipnbiilobjeaaStg
import Derived.Laws.CopyOwn
import Derived.Deep.DeepCutAuto
namespace Go.Proofs.Ythipnbiilobjeaa
open Go.RowKit

theorem wrapN {n : Nat} (h : n < 9223372036854775808) : IntKind.i64.wrap (n : Int) = (n : Int) := by
  simp [IntKind.wrap, IntKind.bits, IntKind.signed]; omega
/-- Numbers by their places. -/
abbrev NF := Nat → Int
def upd (A : NF) (i : Nat) (v : Int) : NF := fun j => if j = i then v else A j
/-- The first 't' by 'f', the others by 'A'. -/
def upto (t : Nat) (f A : NF) : NF := fun i => if i < t then f i else A i
theorem upto_zero {f A : NF} : upto 0 f A = A := by funext i; simp [upto]
theorem upto_step {t : Nat} {f A : NF} {v : Int} (h : v = f t) : upd (upto t f A) t v = upto (t + 1) f A := by
  subst h
  funext i
  unfold upd upto
  by_cases e : i = t
  · subst e; rw [if_pos rfl, if_pos (Nat.lt_succ_self _)]
  · rw [if_neg e]
    by_cases e2 : i < t
    · rw [if_pos e2, if_pos (by omega)]
    · rw [if_neg e2, if_neg (by omega)]
theorem upto_full {t i : Nat} {f A : NF} (h : i < t) : upto t f A i = f i := if_pos h
theorem upto_at {t i : Nat} {f A : NF} (h : t ≤ i) : upto t f A i = A i := if_neg (by omega)
/-- A row of 'n' numbers. -/
def rV (n : Nat) (k : IntKind) (A : NF) : Array Value := ((List.range n).map fun i => Value.int k (A i)).toArray
theorem rV_size {n : Nat} {k : IntKind} {A : NF} : (rV n k A).size = n := by simp [rV]
theorem rV_get {n : Nat} {k : IntKind} {A : NF} {i : Nat} (h : i < n) : (rV n k A)[i]? = some (.int k (A i)) := by
  simp [rV, h]
theorem rV_ext {n : Nat} {k : IntKind} {A B : NF} (h : ∀ i, i < n → A i = B i) : rV n k A = rV n k B := by
  unfold rV
  congr 1
  exact List.map_congr_left (fun i hi => by rw [h i (List.mem_range.1 hi)])
theorem rV_set {n : Nat} {k : IntKind} {A : NF} {i : Nat} (v : Int) : (rV n k A).setIfInBounds i (.int k v) = rV n k (upd A i v) := by
  apply Array.ext_getElem?
  intro j
  rw [Array.getElem?_setIfInBounds]
  by_cases h : j < n
  · rw [rV_get h]
    by_cases e : i = j
    · subst e
      rw [if_pos rfl, rV_size, if_pos h, rV_get h, upd, if_pos rfl]
    · rw [if_neg e, rV_get h, upd, if_neg (fun e' => e e'.symm)]
  · have h1 : (rV n k A)[j]? = none := Array.getElem?_eq_none (by rw [rV_size]; omega)
    have h2 : (rV n k (upd A i v))[j]? = none := Array.getElem?_eq_none (by rw [rV_size]; omega)
    rw [h1, h2]
    by_cases e : i = j
    · subst e
      simp [rV_size, h]
    · rw [if_neg e]
theorem rV_one {n : Nat} {k : IntKind} {A : NF} : (rV n k A).all (·.oneCell') = true := by
  simp [rV, Value.oneCell']
theorem RowAt.num {w : World} {b n : Nat} {k : IntKind} {A : NF} {T : TypeId} (h : RowAt w b (rV n k A) T) {i : Nat} (hi : i < n) : w.cell? ⟨b, i, none⟩ = some (.int k (A i)) := by
  rw [h.cell, rV_get hi]
theorem RowAt.upd {w : World} {b n : Nat} {k : IntKind} {A : NF} {T : TypeId} (h : RowAt w b (rV n k A) T) (i : Nat) (v : Int) {B : NF} (hB : ∀ j, j < n → Go.Proofs.Ythipnbiilobjeaa.upd A i v j = B j) : RowAt (w.setCell ⟨b, i, none⟩ (.int k v)) b (rV n k B) T :=
  h.set i _ (by rw [rV_set, rV_ext hB])
theorem RowAt.same {w : World} {b n : Nat} {k : IntKind} {A B : NF} {T : TypeId} (h : RowAt w b (rV n k A) T) (e : ∀ i, i < n → A i = B i) : RowAt w b (rV n k B) T := rV_ext e ▸ h
theorem RowAt.full {w : World} {b n : Nat} {k : IntKind} {f A : NF} {T : TypeId} (h : RowAt w b (rV n k (upto n f A)) T) : RowAt w b (rV n k f) T := by
  rw [rV_ext (A := f) (B := upto n f A) (fun i hi => (upto_full hi).symm)]
  exact h
theorem RowAt.step {w : World} {b n : Nat} {k : IntKind} {t : Nat} {f A : NF} {T : TypeId} (h : RowAt w b (rV n k (upto t f A)) T) {v : Int} (hv : v = f t) : RowAt (w.setCell ⟨b, t, none⟩ (.int k v)) b (rV n k (upto (t + 1) f A)) T :=
  h.set t _ (by rw [rV_set, upto_step hv])
theorem RowAt.row {w : World} {b : Nat} {cs : Array Value} {T : TypeId} (h : RowAt w b cs T) (cs' : Array Value) : RowAt (w.setRow b cs') b cs' T := setRow_heap w b cs cs' T (0, 0) h
theorem RowAt.otherRow {w : World} {b g : Nat} {cs : Array Value} {T : TypeId} (h : RowAt w b cs T) (hne : b ≠ g) (cs' : Array Value) : RowAt (w.setRow g cs') b cs T := by
  unfold RowAt
  rw [setRow_other w g b cs' hne]
  exact h

/-! ### Whole rows read in regions -/
theorem still_load_row {P : Program} {ops : Array Oper} {rest : List Oper} {o : Oper} {a : Act} {w : World} {Q : Act → Prop} (hgd : o.guard = none) (ty : TypeId) (x : Operand) (ho : o.op = .load ty x)
    (g : Nat) (hx : a.eval x = .pointer (some ⟨g, 0, none⟩)) (t : TypeId) (cs : Array Value) (fr : Nat × Nat) (d : TypeDesc) (hg : w.heap[g]? = some (.cells cs t fr))
    (hu : P.underlying ty = some d) (hd : (match d with | .struct _ | .array _ _ => true | _ => false) = true) (hi : (P.info? ty).map (·.size) = some cs.size)
    (h : wpStill P ops w Q rest (a.put o.dst (.agg cs))) : wpStill P ops w Q (o :: rest) a := by
  refine wpStill_step fun K hK => ?_
  unfold Region.wanted
  rw [hgd]
  simp only [if_true]
  unfold Oper.still execOp
  simp only [ho, hx, Instr.loadAt, Instr.sureAddr, Sem.run_bind, Sem.run_pure, Result.andThen_ok, run_loadVar_row w g t ty cs fr d hg hu hd hi]
  exact ⟨rfl, hK _ h⟩

/-! ### Words -/
def xr (a b : Int) : Int := bits .xor .u64 a b
def an (a b : Int) : Int := bits .and .u64 a b
/-- All bits turned over. -/
def nt (a : Int) : Int := bits .xor .u64 IntKind.u64.max a
/-- Turned round by 's' bits, to the left. -/
def rl (a : Int) (s : Nat) : Int := bits .or .u64 (IntKind.u64.wrap (a * 2 ^ s)) (a / 2 ^ (64 - s))
def InW (a : Int) : Prop := 0 ≤ a ∧ a < 18446744073709551616

/-! ### A round -/
def thC (A : NF) (x : Nat) : Int := xr (xr (xr (xr (A x) (A (x + 5))) (A (x + 10))) (A (x + 15))) (A (x + 20))
def thD (A : NF) (x : Nat) : Int := xr (thC A ((x + 4) % 5)) (rl (thC A ((x + 1) % 5)) 1)
def rho (A : NF) (turnsBy places : Nat → Nat) : Nat → NF
  | 0 => fun _ => 0
  | i + 1 => upd (rho A turnsBy places i) (places i) (rl (xr (A i) (thD A (i % 5))) (turnsBy i))
def chi (B : NF) (i : Nat) : Int := xr (B i) (an (nt (B (i / 5 * 5 + (i + 1) % 5))) (B (i / 5 * 5 + (i + 2) % 5)))
def rnd (A : NF) (turnsBy places : Nat → Nat) (last : Int) : NF := upd (chi (rho A turnsBy places 25)) 0 (xr (chi (rho A turnsBy places 25) 0) last)

/-! ### By how much words are turned, and where they come -/
def tXY : Nat → Nat × Nat
  | 0 => (1, 0)
  | t + 1 => ((tXY t).2, (2 * (tXY t).1 + 3 * (tXY t).2) % 5)
def updN (A : Nat → Nat) (i v : Nat) : Nat → Nat := fun j => if j = i then v else A j
def byT : Nat → Nat → Nat
  | 0 => fun _ => 0
  | t + 1 => updN (byT t) ((tXY t).1 + 5 * (tXY t).2) ((t + 1) * (t + 2) / 2 % 64)
def toT (i : Nat) : Nat := i / 5 + 5 * ((2 * (i % 5) + 3 * (i / 5)) % 5)
theorem tXY_lt : ∀ t, (tXY t).1 < 5 ∧ (tXY t).2 < 5
  | 0 => by decide
  | t + 1 => ⟨(tXY_lt t).2, by show (2 * (tXY t).1 + 3 * (tXY t).2) % 5 < 5; omega⟩
theorem toT_lt {i : Nat} (h : i < 25) : toT i < 25 := by unfold toT; omega
theorem byT_lt : ∀ t i, byT t i < 64
  | 0, i => by simp [byT]
  | t + 1, i => by
    unfold byT updN
    split
    · omega
    · exact byT_lt t i
/-- The same as numbers of a row. -/
abbrev asI (A : Nat → Nat) : NF := fun i => (A i : Int)

/-- What the rounds' last steps turn. -/
def rcL : List Int := [0x0000000000000001, 0x0000000000008082, 0x800000000000808a, 0x8000000080008000, 0x000000000000808b, 0x0000000080000001,
  0x8000000080008081, 0x8000000000008009, 0x000000000000008a, 0x0000000000000088, 0x0000000080008009, 0x000000008000000a,
  0x000000008000808b, 0x800000000000008b, 0x8000000000008089, 0x8000000000008003, 0x8000000000008002, 0x8000000000000080,
  0x000000000000800a, 0x800000008000000a, 0x8000000080008081, 0x8000000000008080, 0x0000000080000001, 0x8000000080008008]
def rcC (i : Nat) : Int := rcL.getD i 0
def mixN (A : NF) : Nat → NF
  | 0 => A
  | k + 1 => rnd (mixN A k) (byT 24) toT (rcC k)
/-- A state, mixed. -/
def mixF (A : NF) : NF := mixN A 24
end Go.Proofs.Ythipnbiilobjeaa

namespace Go.Proofs.Ythipnbiilobjeaa
open Go.RowKit

section
variable {P : Program} {ops : Array Oper} {es : List Nat} {his : Nat → Nat} {Ws : Nat → World}

theorem stg_load_row {Q : Act → Prop} {k : Nat} {a : Act} {o : Oper} {rest : List Oper} (n : Nat) (hk : (!es.contains k && his k == n) = true) (hgd : o.guard = none) (ty : TypeId) (x : Operand) (ho : o.op = .load ty x)
    (g : Nat) (hx : a.eval x = .pointer (some ⟨g, 0, none⟩)) (t : TypeId) (cs : Array Value) (fr : Nat × Nat) (d : TypeDesc) (hg : ∀ s, s ≤ n → (Ws s).heap[g]? = some (.cells cs t fr))
    (hu : P.underlying ty = some d) (hd : (match d with | .struct _ | .array _ _ => true | _ => false) = true) (hi : (P.info? ty).map (·.size) = some cs.size)
    (h : wpStg P ops es his Ws Q (k + 1) rest (a.put o.dst (.agg cs))) : wpStg P ops es his Ws Q k (o :: rest) a := by
  refine stg_step n hk fun K hK => ?_
  unfold Region.wanted
  rw [hgd]
  simp only [if_true]
  refine ⟨.agg cs, fun s => ?_, hK _ h⟩
  unfold Oper.quietAt execOp
  simp only [ho, hx, Instr.loadAt, Instr.sureAddr, Sem.run_bind, Sem.run_pure, Result.andThen_ok, run_loadVar_row (Ws s.1) g t ty cs fr d (hg s.1 s.2) hu hd hi]
  exact ⟨rfl, rfl⟩

/-- A store of a whole row, as an effect. -/
theorem eff_store_row {a : Act} {o : Oper} {w w1 : World} (ty : TypeId) (x y : Operand) (ho : o.op = .store ty x y)
    (g : Nat) (cells : Array Value) (hx : a.eval x = .pointer (some ⟨g, 0, none⟩)) (hy : a.eval y = .agg cells)
    (t : TypeId) (old : Array Value) (hg : w.heap[g]? = some (.cells old t (0, 0))) (hi : (P.info? ty).map (·.size) = some cells.size)
    (hold : old.size = cells.size) (h1 : cells.all (·.oneCell') = true) (hw : w1 = w.setRow g cells) : effUpon w1 undef ((execOp a.eval o).run P w) := by
  unfold execOp
  simp only [ho, hx, hy, Instr.storeAt, Instr.sureAddr, Sem.run_bind, Sem.run_pure, Result.andThen_ok, run_storeVar_row w g t ty old cells hg hi hold h1]
  exact ⟨hw.symm, rfl⟩

/-- A row built out of what is written, as it reads. -/
theorem wpList_build_to {rest : List Oper} {o : Oper} {a : Act} {w : World} {Q : Exit → Act → World → Prop} (hg : o.guard = none) (t : TypeId) (parts : Array (Nat × Operand)) (ho : o.op = .build t parts) (cs : Array Value)
    (hf : P.built t (parts.map fun (i, x) => (i, a.eval x)).toList = some cs) (h : wpList P ops Q rest (a.put o.dst (.agg cs)) w) : wpList P ops Q (o :: rest) a w :=
  wpList_build hg t parts ho (by rw [hf]; rfl) (by rw [hf]; exact h)

/-- Two results that lie in whole rows. -/
theorem results_row2 {fn : Func} {p q : Tmp} {ty ty2 : TypeId} (h : fn.results = #[.cell p ty, .cell q ty2]) (tmps : Array Value) (w : World) (g g2 : Nat) (t t2 : TypeId) (cs cs2 : Array Value) (d d2 : TypeDesc)
    (hp : tmps.getD p undef = .pointer (some ⟨g, 0, none⟩)) (hq : tmps.getD q undef = .pointer (some ⟨g2, 0, none⟩)) (hg : RowAt w g cs t) (hg2 : RowAt w g2 cs2 t2)
    (hu : P.underlying ty = some d) (hd : (match d with | .struct _ | .array _ _ => true | _ => false) = true) (hi : (P.info? ty).map (·.size) = some cs.size)
    (hu2 : P.underlying ty2 = some d2) (hd2 : (match d2 with | .struct _ | .array _ _ => true | _ => false) = true) (hi2 : (P.info? ty2).map (·.size) = some cs2.size) :
    (results fn tmps).run P w = .ok (.tuple #[.agg cs, .agg cs2]) w := by
  have hp' : tmps[p]?.getD undef = .pointer (some ⟨g, 0, none⟩) := by simpa using hp
  have hq' : tmps[q]?.getD undef = .pointer (some ⟨g2, 0, none⟩) := by simpa using hq
  simp [results, h, hp', hq', asAddr, run_loadVar_row w g t ty cs _ d hg hu hd hi, run_loadVar_row w g2 t2 ty2 cs2 _ d2 hg2 hu2 hd2 hi2]
end
end Go.Proofs.Ythipnbiilobjeaa
