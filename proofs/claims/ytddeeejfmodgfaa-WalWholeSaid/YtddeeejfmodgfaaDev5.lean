/- Device: the reference's Right; a device that came in. -/
import Derived.Test.YtddeeejfmodgfaaDev3
import Derived.Lib.SmallJoins
namespace Go.Proofs.Ytddeeejfmodgfaa
open Go.RowKit Go.ChangeShapes Go.WideShapes Go.ChangeAt

/-- A device as a value: its bytes and how many are sure. -/
def DevRep (_ : World) (v : Value) (x : ByteArray × Int) : Prop := v = dev x.1 x.2 ∧ x.1.size ≤ maxLen ∧ (Lit.int .i64 x.2).wf = true

theorem dev_open {H : Type} {enc : TypeId × Value → H} {w : World} {base : Nat} {v : Value} {d : DataW H} {p : List MemPlace} (hv : Value.okWide Try.prog w .any base 47 v) (h : DataW.Trod enc Try.prog w 0 (fun _ => true) true 47 v d p) (_ : ∀ x ∈ p, x.block < w.heap.size) :
    ∃ x, DevRep w v x := by
  obtain ⟨c0, c1, y0, y1, m, rfl, rfl, rfl, hy0, hy1⟩ := Joins.open_agg2 Try.underlying47 (by kernel_rfl) (by kernel_rfl) hv h
  obtain ⟨a, e0, rfl, wa⟩ := DataW.trod_string Try.underlying9 hy0
  obtain ⟨n, e1, rfl, wn⟩ := DataW.trod_int Try.underlying3 hy1
  simp at e0 e1
  subst e0 e1
  exact ⟨(a, n), rfl, wa, wn⟩

set_option maxHeartbeats 400000 in
theorem rright_yes (b : ByteArray) (n : Int) (w : World) (h1 : (b.size : Int) ≤ 200000) (h2 : 0 ≤ n) (h3 : n ≤ (b.size : Int)) :
    Calls Try.prog 49 #[dev b n] w fun e w' => e = .returned (.bool true) ∧ Below w.heap.size w w' := by
  go_enter Try.func49, Try.ntmps49
  go_wp2
  go_ret
  exact ⟨rfl, (Below.refl _ _).alloc (Nat.le_refl _) _⟩

set_option maxHeartbeats 400000 in
theorem rright_no (b : ByteArray) (n : Int) (w : World) (hb : (b.size : Int) ≤ 9223372036854775807) (h : 200000 < (b.size : Int) ∨ n < 0 ∨ (b.size : Int) < n) :
    Calls Try.prog 49 #[dev b n] w fun e w' => e = .returned (.bool false) ∧ Below w.heap.size w w' := by
  have hc : 200000 < (b.size : Int) ∨ ((b.size : Int) ≤ 200000 ∧ n < 0) ∨ ((b.size : Int) ≤ 200000 ∧ 0 ≤ n ∧ (b.size : Int) < n) := by omega
  have hd : ((b.size : Int) < n) → decide (n ≤ (b.size : Int)) = false := fun h => by simp; omega
  rcases hc with c | ⟨c1, c2⟩ | ⟨c1, c2, c3⟩
  case inr.inr => have hd' := hd c3; clear hd; go_enter Try.func49, Try.ntmps49; go_wp2; go_ret; exact ⟨rfl, (Below.refl _ _).alloc (Nat.le_refl _) _⟩
  all_goals
    clear hd
    go_enter Try.func49, Try.ntmps49
    go_wp2
    go_ret
    exact ⟨rfl, (Below.refl _ _).alloc (Nat.le_refl _) _⟩
end Go.Proofs.Ytddeeejfmodgfaa
