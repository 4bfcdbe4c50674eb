/- Vote: whether an address is among others, how many votes are for the same, and whether addresses may be. -/
import Derived.Test.YthipnbiilobjeaaVoO
namespace Go.Proofs.Ythipnbiilobjeaa
open Go.RowKit

def cntL (V : List Bal) (b : Bal) : Nat := V.countP fun x => decide (x.2.1 = b.2.1) && (x.2.2 == b.2.2)
theorem cntL_le (V : List Bal) (b : Bal) : cntL V b ≤ V.length := List.countP_le_length

set_option maxRecDepth 100000 in
set_option maxHeartbeats 1000000 in
theorem contains_any (v : Value) (l : List ByteArray) (a : ByteArray) (w : World) (h : RowE encS w v l) :
    Calls Try.prog 99 #[v, .string a] w fun e w' => e = .returned (.bool (hasL l a)) ∧ w = w' := by
  have H := Lib.hid h
  obtain ⟨p, cap, rfl, h1, h2⟩ := h.shape
  clear h
  go_enter Try.func99, Try.ntmps99
  go_wp2_with (go_at_call 148; refine (index_any _ _ _ _ H.out).mono ?_; rintro e w' ⟨⟨n, rfl, hn⟩, rfl⟩)
  all_goals
    go_ret
    simp_all

set_option maxRecDepth 100000 in
set_option maxHeartbeats 1000000 in
theorem has_any (sv vv : Value) (l : List ByteArray) (a : ByteArray) (w : World) (h : RowE encS w sv l) :
    Calls Try.prog 59 #[.agg #[sv, vv], .string a] w fun e w' => e = .returned (.bool (hasL l a)) ∧ Below w.heap.size w w' := by
  have H := Lib.hid (RowE.below encS h ((Below.refl _ w).alloc (Nat.le_refl _) (.cells #[sv, vv] 45)) (Nat.le_refl _))
  obtain ⟨p, cap, rfl, h1, h2⟩ := h.shape
  clear h
  go_enter Try.func59, Try.ntmps59
  go_wp2_with (go_at_call 99; refine (contains_any _ _ _ _ H.out).mono ?_; rintro e w' ⟨rfl, rfl⟩)
  go_ret
  exact ⟨rfl, (Below.refl _ w).alloc (Nat.le_refl _) _⟩

set_option maxRecDepth 100000 in
set_option maxHeartbeats 2000000 in
theorem rhas_any (v : Value) (l : List ByteArray) (a : ByteArray) (w : World) (h : RowE encS w v l) :
    Calls Try.prog 64 #[v, .string a] w fun e w' => e = .returned (.bool (hasL l a)) ∧ Below w.heap.size w w' := by
  obtain ⟨p, cap, rfl, h1, h2⟩ := h.shape
  have H := Lib.hid h.atS.2.2.2
  have hl : l.length ≤ 9223372036854775807 := by unfold maxLen at h2; omega
  clear h
  go_enter Try.func64, Try.ntmps64
  go_wp2
  go_loop [9] (fun c => ∃ k : Nat, k ≤ l.length ∧ c = .int .i64 k ∧ Hid (a ∉ l.take k)) (fun c => l.length - (intOf c).toNat)
  case atStart => exact ⟨0, Nat.zero_le _, rfl, Lib.hid (by simp)⟩
  case round =>
    obtain ⟨k, hk, rfl, hno⟩ := hrel
    by_cases hlt : k < l.length
    · obtain ⟨ad, rfl, hc⟩ := H.out k l[k] (List.getElem?_eq_getElem hlt)
      by_cases he : l[k] = a
      · have e1 := seq_true he
        have hin := hasL_true (show a ∈ l by rw [← he]; exact List.getElem_mem hlt)
        go_wp2_with fail
        go_ret
        exact ⟨rfl, Below.refl _ _⟩
      · have e1 := seq_false he
        go_wp2_with fail
        refine ⟨⟨k + 1, by omega, by simp, Lib.hid ?_⟩, by simp [intOf]; omega⟩
        rw [List.take_add_one, List.getElem?_eq_getElem hlt]
        simp only [Option.toList_some, List.mem_append, List.mem_singleton, not_or]
        exact ⟨hno.out, fun e => he e.symm⟩
    · obtain rfl : k = l.length := by omega
      have hin : hasL l a = false := by
        have := hno.out
        rw [List.take_length] at this
        exact hasL_false this
      go_wp2_with fail
      go_ret
      exact ⟨rfl, Below.refl _ _⟩

theorem cntL_step {V : List Bal} {b : Bal} {k : Nat} (h : k < V.length) : cntL (V.take (k + 1)) b = cntL (V.take k) b + if V[k].2.1 = b.2.1 ∧ V[k].2.2 = b.2.2 then 1 else 0 := by
  rw [List.take_add_one, List.getElem?_eq_getElem h]
  unfold cntL
  rw [List.countP_append]
  simp [List.countP_cons]

set_option maxRecDepth 100000 in
set_option maxHeartbeats 4000000 in
theorem rcount_any (v : Value) (l : List Bal) (b : Bal) (w : World) (h : RowE encB w v l) :
    Calls Try.prog 112 #[v, balV b] w fun e w' => e = .returned (.int .i64 (cntL l b)) ∧ Below w.heap.size w w' := by
  obtain ⟨p, cap, rfl, h1, h2⟩ := h.shape
  have H := Lib.hid h
  have hl : l.length ≤ 9223372036854775807 := by unfold maxLen at h2; omega
  clear h
  obtain ⟨b1, b2, b3⟩ := b
  go_enter Try.func112, Try.ntmps112
  go_wp2
  go_loopw [5, 10] (fun n c wr => ∃ k : Nat, k ≤ l.length ∧ c = .int .i64 k ∧ n = .int .i64 (cntL (l.take k) (b1, b2, b3)) ∧ Hid (RowAt wr w.heap.size #[.string b1, .string b2, .bool b3] 92) ∧ Hid (Below w.heap.size w wr)) (fun _ c _ => l.length - (intOf c).toNat)
  case atStart => exact ⟨0, Nat.zero_le _, rfl, rfl, Lib.hid (heap_alloc_new w _), Lib.hid ((Below.refl _ w).alloc (Nat.le_refl _) _)⟩
  case round =>
    obtain ⟨k, hk, rfl, rfl, hr, hb⟩ := hrel
    by_cases hlt : k < l.length
    · obtain ⟨_, _, _, HA⟩ := (RowE.below encB H.out hb.out (Nat.le_refl _)).atB
      obtain ⟨ad, rfl, c0, c1, c2⟩ := HA k l[k] (List.getElem?_eq_getElem hlt)
      have hst := cntL_step (b := (b1, b2, b3)) hlt
      have hle := cntL_le (l.take k) (b1, b2, b3)
      have htl : (l.take k).length ≤ k := List.length_take_le _ _
      clear HA
      have HR := Lib.hid hr
      have HB := Lib.hid hb
      have hbz : w.heap.size < wr.heap.size := hr.out.lt
      clear hr hb
      generalize hx : l[k] = x at *
      obtain ⟨x1, x2, x3⟩ := x
      have HR := Lib.hid HR.out.out
      obtain ⟨a0, a1, a2, af0, af1, af2⟩ := HR.out.c3
      by_cases e2 : x2 = b2
      · have q2 := seq_true e2
        by_cases e3 : x3 = b3
        · have q3 : (x3 == b3) = true := by simp [e3]
          rw [if_pos ⟨e2, e3⟩] at hst
          go_wp2_with fail
          refine ⟨⟨k + 1, by omega, by simp, by rw [hst]; simp, Lib.hid (HR.out.alloc _), Lib.hid (HB.out.out.alloc (Nat.le_of_lt hbz) _)⟩, by simp [intOf]; omega⟩
        · have q3 : (x3 == b3) = false := by simp [e3]
          rw [if_neg (fun h => e3 h.2)] at hst
          go_wp2_with fail
          refine ⟨⟨k + 1, by omega, by simp, by rw [hst]; simp, Lib.hid (HR.out.alloc _), Lib.hid (HB.out.out.alloc (Nat.le_of_lt hbz) _)⟩, by simp [intOf]; omega⟩
      · have q2 := seq_false e2
        rw [if_neg (fun h => e2 h.1)] at hst
        go_wp2_with fail
        refine ⟨⟨k + 1, by omega, by simp, by rw [hst]; simp, Lib.hid (HR.out.alloc _), Lib.hid (HB.out.out.alloc (Nat.le_of_lt hbz) _)⟩, by simp [intOf]; omega⟩
    · obtain rfl : k = l.length := by omega
      have hcn : cntL (l.take l.length) (b1, b2, b3) = cntL l (b1, b2, b3) := by rw [List.take_length]
      have HB := Lib.hid (Lib.hid hb).out
      clear hb hr
      go_wp2_with fail
      go_ret
      exact ⟨by rw [hcn]; rfl, HB.out.out⟩
end Go.Proofs.Ythipnbiilobjeaa
