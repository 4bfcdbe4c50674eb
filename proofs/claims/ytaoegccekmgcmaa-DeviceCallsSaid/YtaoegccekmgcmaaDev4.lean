/- Device: the laws' own helpers: alive, the reference's Right and Crash; a device that came in. -/
import Derived.Test.YtaoegccekmgcmaaDev3
import Derived.Lib.SmallJoins
namespace Go.Proofs.Ytaoegccekmgcmaa
open Go.RowKit Go.ChangeShapes Go.WideShapes Go.ChangeAt

/-- A device as a value: its bytes and how many are sure. -/
def DevRep (_ : World) (v : Value) (x : ByteArray × Int) : Prop := v = dev x.1 x.2 ∧ x.1.size ≤ maxLen ∧ (Lit.int .i64 x.2).wf = true

theorem dev_open {H : Type} {enc : TypeId × Value → H} {w : World} {base : Nat} {v : Value} {d : DataW H} {p : List MemPlace} (hv : Value.okWide Try.prog w .any base 34 v) (h : DataW.Trod enc Try.prog w 0 (fun _ => true) true 34 v d p) (_ : ∀ x ∈ p, x.block < w.heap.size) :
    ∃ x, DevRep w v x := by
  obtain ⟨c0, c1, y0, y1, m, rfl, rfl, rfl, hy0, hy1⟩ := Joins.open_agg2 Try.underlying34 (by kernel_rfl) (by kernel_rfl) hv h
  obtain ⟨a, e0, rfl, wa⟩ := DataW.trod_string Try.underlying9 hy0
  obtain ⟨n, e1, rfl, wn⟩ := DataW.trod_int Try.underlying3 hy1
  simp at e0 e1
  subst e0 e1
  exact ⟨(a, n), rfl, wa, wn⟩

theorem append_ab (w : World) : Calls Try.prog 15 #[dev ⟨#[]⟩ 0, .string ⟨#[97, 98]⟩] w fun e w' => e = .returned (.tuple #[dev ⟨#[97, 98]⟩ 0, .int .i64 0]) ∧ Below w.heap.size w w' := by
  have h := append_yes ⟨#[]⟩ ⟨#[97, 98]⟩ 0 w (by decide) (by decide) (by decide) (by decide)
  have e : (⟨#[]⟩ ++ ⟨#[97, 98]⟩ : ByteArray) = ⟨#[97, 98]⟩ := by decide +kernel
  rwa [e] at h

set_option maxHeartbeats 400000 in
theorem alive12 (w : World) :
    Calls Try.prog 14 #[] w fun e w' => e = .returned (.bool true) ∧ Below w.heap.size w w' := by
  go_enter Try.func14, Try.ntmps14
  go_wp2_with (first
    | (go_at_call 15; refine (append_ab _).mono ?_; rintro e w1 ⟨rfl, hb1⟩; obtain ⟨hc1, hf1⟩ := bcell hb1; have hz1 := hb1.size)
    | (go_at_call 19; refine (dright_yes _ _ _ (by decide) (by decide) (by decide)).mono ?_; rintro e w2 ⟨rfl, hb2⟩))
  go_ret
  exact ⟨rfl, (hb1.alloc hz1 _).trans (hb2.mono (by simp; omega))⟩

set_option maxHeartbeats 400000 in
theorem rright_yes (b : ByteArray) (n : Int) (w : World) (h1 : (b.size : Int) ≤ 200000) (h2 : 0 ≤ n) (h3 : n ≤ (b.size : Int)) :
    Calls Try.prog 13 #[dev b n] w fun e w' => e = .returned (.bool true) ∧ Below w.heap.size w w' := by
  go_enter Try.func13, Try.ntmps13
  go_wp2
  go_ret
  exact ⟨rfl, (Below.refl _ _).alloc (Nat.le_refl _) _⟩

set_option maxHeartbeats 400000 in
theorem rright_no (b : ByteArray) (n : Int) (w : World) (hb : (b.size : Int) ≤ 9223372036854775807) (h : 200000 < (b.size : Int) ∨ n < 0 ∨ (b.size : Int) < n) :
    Calls Try.prog 13 #[dev b n] w fun e w' => e = .returned (.bool false) ∧ Below w.heap.size w w' := by
  have hc : 200000 < (b.size : Int) ∨ ((b.size : Int) ≤ 200000 ∧ n < 0) ∨ ((b.size : Int) ≤ 200000 ∧ 0 ≤ n ∧ (b.size : Int) < n) := by omega
  have hd : ((b.size : Int) < n) → decide (n ≤ (b.size : Int)) = false := fun h => by simp; omega
  rcases hc with c | ⟨c1, c2⟩ | ⟨c1, c2, c3⟩
  case inr.inr => have hd' := hd c3; clear hd; go_enter Try.func13, Try.ntmps13; go_wp2; go_ret; exact ⟨rfl, (Below.refl _ _).alloc (Nat.le_refl _) _⟩
  all_goals
    clear hd
    go_enter Try.func13, Try.ntmps13
    go_wp2
    go_ret
    exact ⟨rfl, (Below.refl _ _).alloc (Nat.le_refl _) _⟩

set_option maxHeartbeats 400000 in
theorem rcrash_any (b : ByteArray) (n m k : Int) (w : World) (h1 : (b.size : Int) ≤ 200000) (h2 : 0 ≤ n) (h3 : n ≤ (b.size : Int)) (hm : m ≤ 9223372036854775807)
    (hk : (m ≤ 0 ∧ k = n) ∨ (0 < m ∧ m ≤ (b.size : Int) - n ∧ k = n + m) ∨ (0 < m ∧ (b.size : Int) - n < m ∧ k = (b.size : Int))) :
    Calls Try.prog 20 #[dev b n, .int .i64 m] w fun e w' => e = .returned (dev (b.extract 0 k.toNat) k) ∧ Below w.heap.size w w' := by
  have HK := Lib.hid hk
  clear hk
  go_enter Try.func20, Try.ntmps20
  go_wp2
  go_loop [5, 6] (fun c i => ∃ j : Nat, n + (j : Int) ≤ k ∧ i = .int .i64 j ∧ c = .int .i64 (n + (j : Int))) (fun _ i => (b.size - (intOf i).toNat))
  case atStart => exact ⟨0, by have := HK.out; omega, rfl, by simp⟩
  case round =>
    obtain ⟨j, hj, rfl, rfl⟩ := hrel
    have hj0 : 0 ≤ (j : Int) := by omega
    have hkb : k ≤ (b.size : Int) := by have := HK.out; omega
    by_cases hlt : n + (j : Int) < k
    · have a1 : (j : Int) < m := by have := HK.out; omega
      have a2 : n + (j : Int) < (b.size : Int) := by omega
      go_wp2
      go_round
      case rel => exact ⟨j + 1, by omega, by go_num, by first | rfl | (simp; omega)⟩
      case measure => simp [intOf]; omega
    · have hc : ¬ (j : Int) < m ∨ ((j : Int) < m ∧ ¬ n + (j : Int) < (b.size : Int)) := by have := HK.out; omega
      have hk0 : n + (j : Int) = k := by omega
      subst k
      rcases hc with c | ⟨c1, c2⟩
      all_goals
        go_wp2
        refine bodyPost_ret (v := dev (b.extract 0 (n + (j : Int)).toNat) (n + (j : Int))) (by simp [results, Try.results20, go_sem]) rfl ?_
        exact ⟨rfl, ((Below.refl _ _).alloc (Nat.le_refl _) _).alloc (by simp <;> omega) _⟩
end Go.Proofs.Ytaoegccekmgcmaa
