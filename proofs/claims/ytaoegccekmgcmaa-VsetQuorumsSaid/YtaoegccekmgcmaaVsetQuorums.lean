/- VsetQuorums: the walk. -/
import Derived.Test.YtaoegccekmgcmaaVsetTurns
import Derived.Maps.OwnSet
import Derived.Deep.DeepCutAuto
namespace Go.Proofs.Ytaoegccekmgcmaa
open Go.RowKit Go.Maps

theorem law3 : Keyed Try.prog 3 := int_keyed Try.underlying3

/-- The map 'D' holds the turns of the first 'k' rounds. -/
def TurnsOf {H : Type} (h L : Int) (k : Nat) (D : DataW H) : Prop :=
  Tidy D ∧ Maps.size D = k ∧ ∀ x : Int, Maps.has D (.int .i64 x) = true → ∃ j : Nat, j < k ∧ x = (h + (j : Int)) % L

theorem turnsOf_zero {H : Type} (h L : Int) : TurnsOf (H := H) h L 0 (.map []) := by
  refine ⟨tidy_empty, rfl, fun x hx => ?_⟩
  simp [Maps.has] at hx

theorem turnsOf_succ {H : Type} {h L : Int} {k : Nat} {D : DataW H} (H0 : TurnsOf h L k D) (hk : (k : Int) < L) (d : DataW H) :
    TurnsOf h L (k + 1) (D.put (.int .i64 ((h + (k : Int)) % L)) d) := by
  obtain ⟨h1, h2, h3⟩ := H0
  have hkey : WideAt.IsKeyLit (.int .i64 ((h + (k : Int)) % L)) := trivial
  have hno : Maps.has D (.int .i64 ((h + (k : Int)) % L)) = false := by
    cases hh : Maps.has D (.int .i64 ((h + (k : Int)) % L)) with
    | false => rfl
    | true =>
      obtain ⟨j, hj, e⟩ := h3 _ hh
      have e2 := (Int.emod_emod_of_dvd (h + k) (Int.dvd_refl L))
      have d1 := Int.emod_add_mul_ediv (h + (k : Int)) L
      have d2 := Int.emod_add_mul_ediv (h + (j : Int)) L
      have e3 : (k : Int) - (j : Int) = L * ((h + (k : Int)) / L - (h + (j : Int)) / L) := by rw [Int.mul_sub]; omega
      have hd : L ∣ (k : Int) - (j : Int) := ⟨_, e3⟩
      have := Int.le_of_dvd (by omega) hd
      omega
  refine ⟨h1.put hkey d, ?_, fun x hx => ?_⟩
  · rw [size_put h1 d, hno]; simp [h2]
  · by_cases hxe : x = (h + (k : Int)) % L
    · exact ⟨k, by omega, hxe⟩
    · rw [has_put_other (by intro hc; cases hc; exact hxe rfl)] at hx
      obtain ⟨j, hj, e⟩ := h3 _ hx
      exact ⟨j, by omega, e⟩

set_option maxHeartbeats 1000000 in
theorem quorums_nil (a : Option Addr) (cap : Nat) (n m q f h h' : Int) (w : World) (b1 : -9223372036854775808 ≤ n) (b2 : n ≤ 9223372036854775807) (hm : Clamp 1 n m)
    (g1 : 2 * m ≤ 3 * q) (g2 : 3 * q ≤ 2 * m + 2) (g3 : m - 1 ≤ 3 * f + 2) (g4 : 3 * f ≤ m - 1) (b3 : 0 ≤ h) (b4 : h ≤ 18446744073709551615) (t1 : Top 4611686018427387904 h h') :
    Calls Try.prog 4 #[.int .i64 n, .slice a 0 cap, .int .u64 h] w fun e w' => e = .returned (.bool true) ∧ Below w.heap.size w w' := by
  have hmm := @run_makeMap Try.prog
  have hml : 1 ≤ m ∧ m ≤ 1000000 := by unfold Clamp at hm; omega
  have K1 := Lib.hid (fun w => quorum_any m m q w (.inr (.inl ⟨by omega, by omega, rfl⟩)) g1 g2)
  have K2 := Lib.hid (fun w => faults_any m m f w (.inr (.inl ⟨by omega, by omega, rfl⟩)) g3 g4)
  rcases hm with ⟨c, rfl⟩ | ⟨c, c', rfl⟩ | ⟨c, rfl⟩
  all_goals
    rcases t1 with ⟨c1, rfl⟩ | ⟨c1, rfl⟩
  all_goals
    go_enter Try.func4, Try.ntmps4
    go_wp2_with (first
      | (go_at_call 9; refine (K1.out _).mono ?_; rintro e w' ⟨rfl, rfl⟩)
      | (go_at_call 10; refine (K2.out _).mono ?_; rintro e w' ⟨rfl, rfl⟩)
      | (go_at_call 12; refine (alive20 _).mono ?_; rintro e w' ⟨rfl, rfl⟩))
    refine wp_loop_rounds 1 ?_
    rw [rounds_succ]
    go_wp2_with (first
      | (at_len; refine wpList_len_own _ rfl _ 30 rfl 3 4 Try.underlying30 (plainElem (H := Nat) Try.prog 4) w.heap.size 0 (.map []) rfl (World.ownsMap_made _ _ _ _) ?_))
  all_goals
    go_ret
    exact ⟨rfl, (Below.refl _ _).alloc (Nat.le_refl _) _⟩

set_option maxRecDepth 100000 in
set_option maxHeartbeats 2000000 in
theorem quorums_row (a : Addr) (len cap L : Nat) (ss : List ByteArray) (n m q f h h' : Int) (w : World) (b1 : -9223372036854775808 ≤ n) (b2 : n ≤ 9223372036854775807) (hm : Clamp 1 n m)
    (g1 : 2 * m ≤ 3 * q) (g2 : 3 * q ≤ 2 * m + 2) (g3 : m - 1 ≤ 3 * f + 2) (g4 : 3 * f ≤ m - 1) (b3 : 0 ≤ h) (b4 : h ≤ 18446744073709551615) (t1 : Top 4611686018427387904 h h')
    (hl : 0 < len) (hlc : len ≤ cap) (hcap : cap ≤ 9223372036854775807) (tL : (len ≤ 20 ∧ L = len) ∨ (20 < len ∧ L = 20)) (hab : a.block < w.heap.size)
    (hc : ∀ i, i < L → w.cell? (a.add i) = some (.string (ss.getD i ByteArray.empty))) :
    Calls Try.prog 4 #[.int .i64 n, .slice (some a) len cap, .int .u64 h] w fun e w' => e = .returned (.bool true) ∧ Below w.heap.size w w' := by
  have hmm := @run_makeMap Try.prog
  have hml : 1 ≤ m ∧ m ≤ 1000000 := by unfold Clamp at hm; omega
  have hh : 0 ≤ h' ∧ h' ≤ 4611686018427387904 := by unfold Top at t1; omega
  have hL : 0 < L ∧ L ≤ 20 := by omega
  have K1 := Lib.hid (fun w => quorum_any m m q w (.inr (.inl ⟨by omega, by omega, rfl⟩)) g1 g2)
  have K2 := Lib.hid (fun w => faults_any m m f w (.inr (.inl ⟨by omega, by omega, rfl⟩)) g3 g4)
  have HC := Lib.hid hc
  have Hm := Lib.hid hm
  have Ht := Lib.hid t1
  have HL := Lib.hid tL
  clear hc hm t1 tL
  go_enter Try.func4, Try.ntmps4
  go_upto_region 1 with (fail)
  go_cut [0] (fun s0 wr => s0 = .int .i64 m ∧ w = wr)
  case first =>
    rcases Hm.out with ⟨c, e⟩ | ⟨c, c', e⟩ | ⟨c, e⟩
    all_goals
      clear K1 K2 g1 g2 g3 g4 hml
      obtain rfl := e
      go_wp2
      go_meet
      case rel => exact ⟨rfl, rfl⟩
  case rest =>
    obtain ⟨rfl, rfl⟩ := hcut
    go_upto_region 5 with (first
      | (go_at_call 9; refine (K1.out _).mono ?_; rintro e w' ⟨rfl, rfl⟩)
      | (go_at_call 10; refine (K2.out _).mono ?_; rintro e w' ⟨rfl, rfl⟩)
      | (go_at_call 12; refine (alive20 _).mono ?_; rintro e w' ⟨rfl, rfl⟩))
    clear K1 K2 g1 g2 g3 g4 hml
    go_cut [1] (fun s1 wr => s1 = .slice (some a) L cap ∧ w = wr)
    case first =>
      rcases HL.out with ⟨c, e⟩ | ⟨c, e⟩
      all_goals
        obtain rfl := e
        go_wp2
        go_meet
        case rel => exact ⟨rfl, rfl⟩
    case rest =>
      obtain ⟨rfl, rfl⟩ := hcut
      go_upto_region 6 with (fail)
      go_cut [2] (fun s1 wr => s1 = .int .u64 h' ∧ w = wr)
      case first =>
        rcases Ht.out with ⟨c, e⟩ | ⟨c, e⟩
        all_goals
          obtain rfl := e
          go_wp2
          go_meet
          case rel => exact ⟨rfl, rfl⟩
      case rest =>
        obtain ⟨rfl, rfl⟩ := hcut
        go_wp2
        go_loopw [59] (fun i wr => ∃ k : Nat, k ≤ L ∧ i = .int .i64 k ∧ (∃ D, wr.ownsMap Try.prog 3 (plainElem (H := Nat) Try.prog 4) w.heap.size k D ∧ TurnsOf h' L k D) ∧ Below w.heap.size w wr)
          (fun i _ => L - (intOf i).toNat)
        case atStart => exact ⟨0, Nat.zero_le _, rfl, ⟨_, World.ownsMap_made _ _ _ _, turnsOf_zero _ _⟩, (Below.refl _ _).alloc (Nat.le_refl _) _⟩
        case round =>
          obtain ⟨k, hk, rfl, ⟨D, hown, hD⟩, hbel⟩ := hrel
          have HD := Lib.hid hD
          have HB := Lib.hid hbel
          clear hD hbel
          by_cases hlt : k < L
          · have q1 := Int.emod_nonneg (h' + (k : Int)) (b := (L : Int)) (by omega)
            have q2 := Int.emod_lt_of_pos (h' + (k : Int)) (b := (L : Int)) (by omega)
            obtain ⟨j, hj⟩ : ∃ j : Nat, (h' + (k : Int)) % (L : Int) = (j : Int) := ⟨((h' + (k : Int)) % (L : Int)).toNat, by omega⟩
            rw [hj] at q1 q2
            have hcj : wr.cell? (a.add j) = some (.string (ss.getD j ByteArray.empty)) := by
              rw [HB.out.cell (by rw [addr_add_block]; exact hab)]
              exact HC.out j (by omega)
            have HP := Lib.hid (proposer_sum wr a L cap j h' (k : Int) (ss.getD j ByteArray.empty) hL.1 (by omega) hL.2 (by omega) (by omega) hj hcj)
            go_wp2_with (first
              | (go_at_call 11; refine HP.out.mono ?_; rintro e w' ⟨rfl, rfl⟩)
              | (at_mapUpdate; refine wpList_mapUpdate_own _ rfl _ _ _ 30 rfl 3 4 law3 Try.underlying30 _ w.heap.size k _ rfl hown (by unfold maxLen; omega) _ _ _ rfl rfl (keyOf_int_mk Try.underlying3 (WalkArith.wf_i64 (by omega))) _ [] (plainElem_bool Try.underlying4 true) ?_; intro w1 hown1 hgrow1))
            go_roundw
            case rel =>
              refine ⟨k + 1, by omega, by go_num, ⟨_, hown1, ?_⟩, HB.out.grown hgrow1 HB.out.size (fun j hj => by cases hj; exact Nat.le_refl _)⟩
              rw [← hj]
              exact turnsOf_succ HD.out (by omega) _
            case measure => simp [intOf]; omega
          · obtain rfl : k = L := by omega
            have hsz : Maps.size D = k := HD.out.2.1
            go_wp2_with (first
              | (at_len; refine wpList_len_own _ rfl _ 30 rfl 3 4 Try.underlying30 (plainElem (H := Nat) Try.prog 4) w.heap.size k D rfl hown ?_))
            go_ret
            exact ⟨rfl, HB.out⟩

theorem vsetQuorums_walk (W : World) (n : Int) (wn : (Lit.int .i64 n).wf = true) (v : Value) (ss : List ByteArray) (hv : StrRow W v ss) (h : Int) (wh : (Lit.int .u64 h).wf = true) :
    Calls Try.prog 4 #[.int .i64 n, v, .int .u64 h] W fun e W' => e = .returned (.bool true) ∧ Below W.heap.size W W' := by
  have bh := u64_bd wh
  have bn := i64_bd wn
  obtain ⟨h', t1⟩ := top_ex 4611686018427387904 h
  obtain ⟨m, hm⟩ := clamp_ex 1 n (by omega)
  rcases hv with ⟨rfl, rfl⟩ | ⟨a, len, cap, rfl, hlc, hcap, hlen, hcell⟩
  · exact quorums_nil _ _ n m ((2 * m + 2) / 3) ((m - 1) / 3) h h' W bn.1 bn.2 hm (by omega) (by omega) (by omega) (by omega) bh.1 bh.2 t1
  · by_cases hz : len = 0
    · subst hz
      exact quorums_nil _ _ n m ((2 * m + 2) / 3) ((m - 1) / 3) h h' W bn.1 bn.2 hm (by omega) (by omega) (by omega) (by omega) bh.1 bh.2 t1
    · unfold maxLen at hcap
      obtain ⟨L, tL⟩ : ∃ L, (len ≤ 20 ∧ L = len) ∨ (20 < len ∧ L = 20) := by
        by_cases h : len ≤ 20
        · exact ⟨len, .inl ⟨h, rfl⟩⟩
        · exact ⟨20, .inr ⟨by omega, rfl⟩⟩
      have hab : a.block < W.heap.size := by have := World.block_lt_of_cell? W (a.add 0) (hcell 0 (by omega)); rwa [addr_add_block] at this
      exact quorums_row a len cap L ss n m ((2 * m + 2) / 3) ((m - 1) / 3) h h' W bn.1 bn.2 hm (by omega) (by omega) (by omega) (by omega) bh.1 bh.2 t1 (by omega) hlc (by omega) tL hab (fun i hi => hcell i (by omega))
end Go.Proofs.Ytaoegccekmgcmaa
