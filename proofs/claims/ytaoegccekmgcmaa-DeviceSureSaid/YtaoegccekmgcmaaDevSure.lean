/- DeviceSure: the walk. -/
import Derived.Test.YtaoegccekmgcmaaDev4
import Derived.Deep.RegionWith
namespace Go.Proofs.Ytaoegccekmgcmaa
open Go.RowKit

set_option maxRecDepth 100000 in
set_option maxHeartbeats 2000000 in
theorem sure_yes (b s t : ByteArray) (n m k : Int) (B S T : Nat) (w : World) (hb : b.size ≤ 9223372036854775807) (hs : s.size ≤ 9223372036854775807) (ht : t.size ≤ 9223372036854775807)
    (mb : MinIs 3000 b.size B) (ms : MinIs 300 s.size S) (mt : MinIs 300 t.size T) (r1 : 0 ≤ n) (r2 : n ≤ (B : Int))
    (hk : (m ≤ 0 ∧ k = (B : Int) + (S : Int)) ∨ (0 < m ∧ m ≤ (T : Int) ∧ k = (B : Int) + (S : Int) + m) ∨ (0 < m ∧ (T : Int) < m ∧ k = (B : Int) + (S : Int) + (T : Int))) :
    Calls Try.prog 7 #[dev b n, .string s, .string t, .int .i64 m] w fun e w' => e = .returned (.bool true) ∧ Below w.heap.size w w' := by
  obtain ⟨b1, b2, b3⟩ := mb
  obtain ⟨s1, s2, s3⟩ := ms
  obtain ⟨t1, t2, t3⟩ := mt
  have HK := Lib.hid hk
  have kb : (B : Int) + (S : Int) ≤ k ∧ k ≤ (B : Int) + (S : Int) + (T : Int) := by omega
  clear hk
  go_enter Try.func7, Try.ntmps7
  go_wp2
  go_region
  go_upto_region 2 with (fail)
  have zb : (b.extract 0 B).size = B := by rw [ByteArray.size_extract]; omega
  have zs : (s.extract 0 S).size = S := by rw [ByteArray.size_extract]; omega
  have zt : (t.extract 0 T).size = T := by rw [ByteArray.size_extract]; omega
  have hbs : (b.extract 0 B ++ s.extract 0 S).size = B + S := by rw [ByteArray.size_append]; omega
  have hbst : (b.extract 0 B ++ s.extract 0 S ++ t.extract 0 T).size = B + S + T := by rw [ByteArray.size_append]; omega
  have Zb := Lib.hid zb
  have Zs := Lib.hid zs
  have Zt := Lib.hid zt
  have Hbs := Lib.hid hbs
  have Hbst := Lib.hid hbst
  clear zb zs zt hbs hbst
  generalize b.extract 0 B = b' at *
  generalize s.extract 0 S = s' at *
  generalize t.extract 0 T = t' at *
  clear b1 b2 s1 s2 t1 t2 hb hs ht
  have X1 : (b'.size : Int) = (B : Int) := by rw [Zb.out]
  have X2 : (s'.size : Int) = (S : Int) := by rw [Zs.out]
  have X3 : (t'.size : Int) = (T : Int) := by rw [Zt.out]
  obtain ⟨kn, rfl⟩ : ∃ kn : Nat, k = (kn : Int) := ⟨k.toNat, by omega⟩
  obtain ⟨bs, hbs⟩ : ∃ bs, b' ++ s' = bs := ⟨_, rfl⟩
  obtain ⟨al, hal⟩ : ∃ al, bs ++ t' = al := ⟨_, rfl⟩
  obtain ⟨x, hx⟩ : ∃ x, al.extract 0 kn = x := ⟨_, rfl⟩
  have X4 : (bs.size : Int) = (B : Int) + (S : Int) := by rw [← hbs, Hbs.out]; omega
  have X5 : (al.size : Int) = (B : Int) + (S : Int) + (T : Int) := by rw [← hal, ← hbs, Hbst.out]; omega
  have X6 : (x.size : Int) = (kn : Int) := by rw [← hx, ByteArray.size_extract]; omega
  have X7 : x.extract 0 kn = x := by rw [← hx, ByteArray.extract_extract]; simp
  clear Zb Zs Zt Hbs Hbst
  go_wp2_with (fail)
  refine (rright_yes b' n _ (by omega) r1 (by omega)).mono ?_
  rintro e w1 ⟨rfl, hb1⟩
  have F0 : w1.cell? ⟨w.heap.size, 0, none⟩ = some (.string (b')) := cell_at hb1 (by first | omega | (simp <;> omega)) (by first | assumption | go_simp)
  have F1 : w1.cell? ⟨w.heap.size, 1, none⟩ = some (.int .i64 (n)) := cell_at hb1 (by first | omega | (simp <;> omega)) (by first | assumption | go_simp)
  have L1 : w.heap.size < w1.heap.size := by have := hb1.size; simp at this; omega
  have B1 := Lib.hid (Below.trans (((Below.refl w.heap.size w).alloc (Nat.le_refl _) (.cells #[.string b', .int .i64 n] 34)).drew) (hb1.mono (by simp)))
  clear hb1
  go_wp2_with (fail)
  refine (append_yes b' s' n _ (by omega) r1 (by omega) (by omega)).mono ?_
  rintro e w2 ⟨rfl, hb2⟩
  rw [hbs]
  have G0 : w2.cell? ⟨w.heap.size, 0, none⟩ = some (.string (b')) := cell_at hb2 (by first | omega | (simp <;> omega)) (by first | assumption | go_simp)
  have G1 : w2.cell? ⟨w.heap.size, 1, none⟩ = some (.int .i64 (n)) := cell_at hb2 (by first | omega | (simp <;> omega)) (by first | assumption | go_simp)
  have L2 : w.heap.size < w2.heap.size := lt_at hb2 L1
  have B2 := Lib.hid (B1.out.trans (hb2.mono (by omega)))
  clear hb2 B1 F0 F1 L1
  go_wp2_with (fail)
  refine (sync_yes bs n _ (by omega) r1 (by omega)).mono ?_
  rintro e w3 ⟨rfl, hb3⟩
  have F0 : w3.cell? ⟨w.heap.size, 0, none⟩ = some (.string (b')) := cell_at hb3 (by first | omega | (simp <;> omega)) (by first | assumption | go_simp)
  have F1 : w3.cell? ⟨w.heap.size, 1, none⟩ = some (.int .i64 (n)) := cell_at hb3 (by first | omega | (simp <;> omega)) (by first | assumption | go_simp)
  have L3 : w.heap.size < w3.heap.size := by have := hb3.size; simp at this; omega
  have B3 := Lib.hid ((B2.out.alloc (by omega) _).trans (hb3.mono (by simp <;> omega)))
  clear hb3 B2 G0 G1 L2
  go_wp2_with (fail)
  refine (append_yes bs t' _ _ (by omega) (by omega) (by omega) (by omega)).mono ?_
  rintro e w4 ⟨rfl, hb4⟩
  rw [hal]
  have G0 : w4.cell? ⟨w.heap.size, 0, none⟩ = some (.string (b')) := cell_at hb4 (by first | omega | (simp <;> omega)) (by first | assumption | go_simp)
  have G1 : w4.cell? ⟨w.heap.size, 1, none⟩ = some (.int .i64 (n)) := cell_at hb4 (by first | omega | (simp <;> omega)) (by first | assumption | go_simp)
  have L4 : w.heap.size < w4.heap.size := by have := hb4.size; simp at this; omega
  have B4 := Lib.hid ((B3.out.alloc (by omega) _).trans (hb4.mono (by simp <;> omega)))
  clear hb4 B3 F0 F1 L3
  go_wp2_with (fail)
  refine (crash_yes al _ m kn _ (by omega) (by omega) (by omega) (by have := HK.out; omega)).mono ?_
  rintro e w5 ⟨rfl, hb5⟩
  rw [Int.toNat_natCast, hx]
  have F0 : w5.cell? ⟨w.heap.size, 0, none⟩ = some (.string (b')) := cell_at hb5 (by first | omega | (simp <;> omega)) (by first | assumption | go_simp)
  have F1 : w5.cell? ⟨w.heap.size, 1, none⟩ = some (.int .i64 (n)) := cell_at hb5 (by first | omega | (simp <;> omega)) (by first | assumption | go_simp)
  have L5 : w.heap.size < w5.heap.size := by have := hb5.size; simp at this; omega
  have B5 := Lib.hid ((B4.out.alloc (by omega) _).trans (hb5.mono (by simp <;> omega)))
  clear hb5 B4 G0 G1 L4
  go_wp2_with (fail)
  refine (crash_yes x _ (-1) kn _ (by omega) (by omega) (by omega) (.inl ⟨by omega, rfl⟩)).mono ?_
  rintro e w6 ⟨rfl, hb6⟩
  rw [Int.toNat_natCast, X7]
  have G0 : w6.cell? ⟨w.heap.size, 0, none⟩ = some (.string (b')) := cell_at hb6 (by first | omega | (simp <;> omega)) (by first | assumption | go_simp)
  have G1 : w6.cell? ⟨w.heap.size, 1, none⟩ = some (.int .i64 (n)) := cell_at hb6 (by first | omega | (simp <;> omega)) (by first | assumption | go_simp)
  have H0 : w6.cell? ⟨w5.heap.size, 0, none⟩ = some (.string (x)) := cell_at hb6 (by first | omega | (simp <;> omega)) (by first | assumption | go_simp)
  have H1 : w6.cell? ⟨w5.heap.size, 1, none⟩ = some (.int .i64 ((kn : Int))) := cell_at hb6 (by first | omega | (simp <;> omega)) (by first | assumption | go_simp)
  have L6 : w5.heap.size < w6.heap.size := by have := hb6.size; simp at this; omega
  have L7 : w.heap.size < w6.heap.size := by omega
  have B6 := Lib.hid ((B5.out.alloc (by omega) _).trans (hb6.mono (by simp <;> omega)))
  clear hb6 B5 F0 F1
  go_upto_region 11 with (fail)
  (refine region_head_tail 60 (by kernel_rfl) rfl (by kernel_rfl) (fun K hK => ?_); go_simp)
  refine (alive12 _).mono ?_
  rintro e w7 ⟨rfl, hb7⟩
  have Q0 : w7.cell? ⟨w.heap.size, 0, none⟩ = some (.string (b')) := cell_at hb7 (by first | omega | (simp <;> omega)) (by first | assumption | go_simp)
  have Q1 : w7.cell? ⟨w.heap.size, 1, none⟩ = some (.int .i64 (n)) := cell_at hb7 (by first | omega | (simp <;> omega)) (by first | assumption | go_simp)
  have S0 : w7.cell? ⟨w5.heap.size, 0, none⟩ = some (.string (x)) := cell_at hb7 (by first | omega | (simp <;> omega)) (by first | assumption | go_simp)
  have S1 : w7.cell? ⟨w5.heap.size, 1, none⟩ = some (.int .i64 ((kn : Int))) := cell_at hb7 (by first | omega | (simp <;> omega)) (by first | assumption | go_simp)
  have T0 : w7.cell? ⟨w6.heap.size, 0, none⟩ = some (.string (x)) := cell_at hb7 (by first | omega | (simp <;> omega)) (by first | assumption | go_simp)
  have T1 : w7.cell? ⟨w6.heap.size, 1, none⟩ = some (.int .i64 ((kn : Int))) := cell_at hb7 (by first | omega | (simp <;> omega)) (by first | assumption | go_simp)
  have B7 := Lib.hid ((B6.out.alloc (by omega) _).drew.trans (hb7.mono (by simp <;> omega)))
  clear hb7 B6 G0 G1 H0 H1
  have wr : IntKind.i64.wrap ((B : Int) + (S : Int)) = (B : Int) + (S : Int) := IntWalk.i64_in _ (by omega)
  have kb1 := kb.1
  (refine hK _ _ ?_; clear hK K; simp only [List.take_succ_cons, List.take_zero, List.drop_succ_cons, List.drop_zero]; (repeat still_step); refine wpStill_nil ?_)
  go_wp2
  go_ret
  exact ⟨rfl, B7.out⟩

set_option maxRecDepth 100000 in
set_option maxHeartbeats 2000000 in
theorem sure_no (b s t : ByteArray) (n m : Int) (B S T : Nat) (w : World) (hb : b.size ≤ 9223372036854775807) (hs : s.size ≤ 9223372036854775807) (ht : t.size ≤ 9223372036854775807)
    (mb : MinIs 3000 b.size B) (ms : MinIs 300 s.size S) (mt : MinIs 300 t.size T) (hN : n < 0 ∨ (B : Int) < n) :
    Calls Try.prog 7 #[dev b n, .string s, .string t, .int .i64 m] w fun e w' => e = .returned (.bool true) ∧ Below w.heap.size w w' := by
  obtain ⟨b1, b2, b3⟩ := mb
  obtain ⟨s1, s2, s3⟩ := ms
  obtain ⟨t1, t2, t3⟩ := mt
  have HN := Lib.hid hN
  clear hN
  go_enter Try.func7, Try.ntmps7
  go_wp2
  go_region
  go_upto_region 2 with (fail)
  have zb : ((b.extract 0 B).size : Int) = B := by rw [ByteArray.size_extract]; omega
  generalize b.extract 0 B = b' at *
  generalize s.extract 0 S = s' at *
  generalize t.extract 0 T = t' at *
  clear b1 b2 s1 s2 t1 t2 hb hs ht
  go_wp2_with (fail)
  refine (rright_no _ _ _ (by omega) (by have := HN.out; omega)).mono ?_
  rintro e w1 ⟨rfl, hb1⟩
  have B1 := Lib.hid (Below.trans (((Below.refl w.heap.size w).alloc (Nat.le_refl _) (.cells #[.string b', .int .i64 n] 34)).drew) (hb1.mono (by simp)))
  clear hb1
  go_wp2_with (fail)
  refine (alive12 _).mono ?_
  rintro e w6 ⟨rfl, hb6⟩
  have B6 := Lib.hid (B1.out.trans (hb6.mono B1.out.size))
  clear hb6 B1
  go_wp2_with (fail)
  go_ret
  exact ⟨rfl, B6.out⟩

theorem deviceSure_walk (W : World) (v : Value) (x : ByteArray × Int) (hv : DevRep W v x) (s : ByteArray) (hs : s.size ≤ maxLen) (t : ByteArray) (ht : t.size ≤ maxLen) (m : Int) (_ : (Lit.int .i64 m).wf = true) :
    Calls Try.prog 7 #[v, .string s, .string t, .int .i64 m] W fun e W' => e = .returned (.bool true) ∧ Below W.heap.size W W' := by
  obtain ⟨rfl, hx, _⟩ := hv
  unfold maxLen at hx hs ht
  obtain ⟨B, mb⟩ := minIs_ex 3000 (by omega) x.1.size
  obtain ⟨S, ms⟩ := minIs_ex 300 (by omega) s.size
  obtain ⟨T, mt⟩ := minIs_ex 300 (by omega) t.size
  by_cases hR : 0 ≤ x.2 ∧ x.2 ≤ (B : Int)
  · obtain ⟨k, hk⟩ : ∃ k : Int, (m ≤ 0 ∧ k = (B : Int) + (S : Int)) ∨ (0 < m ∧ m ≤ (T : Int) ∧ k = (B : Int) + (S : Int) + m) ∨ (0 < m ∧ (T : Int) < m ∧ k = (B : Int) + (S : Int) + (T : Int)) := by
      by_cases h1 : m ≤ 0
      · exact ⟨_, .inl ⟨h1, rfl⟩⟩
      · by_cases h2 : m ≤ (T : Int)
        · exact ⟨_, .inr (.inl ⟨by omega, h2, rfl⟩)⟩
        · exact ⟨_, .inr (.inr ⟨by omega, by omega, rfl⟩)⟩
    exact sure_yes x.1 s t x.2 m k B S T W hx hs ht mb ms mt hR.1 hR.2 hk
  · exact sure_no x.1 s t x.2 m B S T W hx hs ht mb ms mt (by omega)
end Go.Proofs.Ytaoegccekmgcmaa
