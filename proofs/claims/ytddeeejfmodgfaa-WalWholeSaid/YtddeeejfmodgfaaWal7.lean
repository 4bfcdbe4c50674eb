/- Wal: contracts of the reference: Append, Open, Like; the law's few and alive. -/
import Derived.Test.YtddeeejfmodgfaaWal6
import Derived.Test.YtddeeejfmodgfaaLater
import Derived.BigRegion
namespace Go.Proofs.Ytddeeejfmodgfaa
open Go.RowKit

set_option maxHeartbeats 2000000 in
theorem rappend_yes (b : ByteArray) (n : Int) (v : Value) (ss : List ByteArray) (r : ByteArray) (w : World) (hv : StrRow w v ss) (h : LogOk b n ss) (hr : 1 ≤ r.size ∧ r.size ≤ 4000) (hb : b.size ≤ 190000) (hn : ss.length ≤ 100) :
    Calls Try.prog 42 #[logV b n v, .string r] w fun e w' => ∃ v', e = .returned (.tuple #[logV (b ++ mkS (frameL (bl r))) ((b ++ mkS (frameL (bl r))).size) v', .int .i64 0]) ∧ OwnS w' w.heap.size v' (ss ++ [r]) ∧ Below w.heap.size w w' := by
  have HV := Lib.hid hv
  have R : Hid (RowAt ((w.alloc (logO b n v)).alloc (logO ⟨#[]⟩ 0 (.slice none 0 0))) w.heap.size #[.string b, .int .i64 n, v] 49) := Lib.hid ((RowAt.new _ _ _).alloc _)
  have S : Hid (RowAt ((w.alloc (logO b n v)).alloc (logO ⟨#[]⟩ 0 (.slice none 0 0))) (w.heap.size + 1) #[.string ⟨#[]⟩, .int .i64 0, .slice none 0 0] 49) := Lib.hid (RowAt.new' _ _ _ (by simp))
  have B : Hid (Below w.heap.size w ((w.alloc (logO b n v)).alloc (logO ⟨#[]⟩ 0 (.slice none 0 0)))) := Lib.hid (below_box2 _ _ _)
  have KB := Lib.hid (fun w hv => rbegin_yes b n v ss r w hv h hr hb hn)
  have zF : (mkS (frameL (bl r))).size ≤ 4006 := by rw [mk_size, frameL_length, bl_length]; omega
  generalize mkS (frameL (bl r)) = F at *
  have hz : (b ++ F).size = b.size + F.size := ByteArray.size_append
  have hz2 : (b ++ F).size ≤ 200000 := by omega
  generalize b ++ F = C at *
  clear hz h hv hr
  go_enter Try.func42, Try.ntmps42
  obtain ⟨a0, a1, a2, af0, af1, af2⟩ := R.out.c3
  go_wp2_with fail
  refine (KB.out _ (HV.out.below B.out (Nat.le_refl _))).mono ?_
  rintro e w1 ⟨v', rfl, o1, hb⟩
  obtain ⟨p', cap', rfl, _⟩ := strRow_slice o1.row
  have hsz : ((w.alloc (logO b n v)).alloc (logO ⟨#[]⟩ 0 (.slice none 0 0))).heap.size = w.heap.size + 2 := by simp
  rw [hsz] at o1
  have O := Lib.hid o1
  (replace R := Lib.hid (R.out.belowS hb); replace S := Lib.hid (S.out.belowS hb); replace B := Lib.hid (B.out.trans (hb.mono B.out.size)); clear hb)
  generalize (ss ++ [r]).length = m at *
  clear o1 hsz
  clear a0 a1 a2 af0 af1 af2
  have x0 := R.out.lt
  have x1 := S.out.lt
  obtain ⟨d0, d1, d2, df0, df1, df2⟩ := S.out.c3
  have T : Hid (RowAt (w1.alloc (logO C n (.slice p' m cap'))) w1.heap.size #[.string C, .int .i64 n, .slice p' m cap'] 49) := Lib.hid (RowAt.new _ _ _)
  obtain ⟨t0, t1, t2, tf0, tf1, tf2⟩ := T.out.c3
  go_wp2
  refine bodyPost_ret (v := .tuple #[logV C C.size (.slice p' m cap'), .int .i64 0]) (by simp [results, Try.results42, go_sem, d0, d1, d2, x1]) rfl ⟨_, rfl, ?_, ?_⟩
  · exact ((((O.out.setLow _ _ (by simp)).setLow _ _ (by simp)).setLow _ _ (by simp)).alloc _).mono (by omega)
  · exact (((B.out.setCell (p := ⟨w.heap.size + 1, 0, none⟩) (by simp) _).setCell (p := ⟨w.heap.size + 1, 1, none⟩) (by simp) _).setCell (p := ⟨w.heap.size + 1, 2, none⟩) (by simp) _).alloc (by simp; omega) _

set_option maxHeartbeats 2000000 in
theorem rappend_no (b : ByteArray) (n : Int) (v : Value) (ss : List ByteArray) (r : ByteArray) (w : World) (hv : StrRow w v ss) (hb : (b.size : Int) ≤ 9223372036854775807) (hrz : r.size ≤ 9223372036854775807)
    (hn : ss.length ≤ 100) (hsz : ∀ i, (ss.getD i ByteArray.empty).size ≤ 9223372036854775807) (h : ¬ (LogOk b n ss ∧ 1 ≤ r.size ∧ r.size ≤ 4000)) :
    Calls Try.prog 42 #[logV b n v, .string r] w fun e w' => e = .returned (.tuple #[log0, .int .i64 1]) ∧ Below w.heap.size w w' := by
  have HV := Lib.hid hv
  have R : Hid (RowAt ((w.alloc (logO b n v)).alloc (logO ⟨#[]⟩ 0 (.slice none 0 0))) w.heap.size #[.string b, .int .i64 n, v] 49) := Lib.hid ((RowAt.new _ _ _).alloc _)
  have S : Hid (RowAt ((w.alloc (logO b n v)).alloc (logO ⟨#[]⟩ 0 (.slice none 0 0))) (w.heap.size + 1) #[.string ⟨#[]⟩, .int .i64 0, .slice none 0 0] 49) := Lib.hid (RowAt.new' _ _ _ (by simp))
  have B : Hid (Below w.heap.size w ((w.alloc (logO b n v)).alloc (logO ⟨#[]⟩ 0 (.slice none 0 0)))) := Lib.hid (below_box2 _ _ _)
  have KB := Lib.hid (fun w hv => rbegin_no b n v ss r w hv hb hrz hn hsz h)
  clear h hv hsz
  go_enter Try.func42, Try.ntmps42
  obtain ⟨a0, a1, a2, af0, af1, af2⟩ := R.out.c3
  go_wp2_with fail
  refine (KB.out _ (HV.out.below B.out (Nat.le_refl _))).mono ?_
  rintro e w1 ⟨rfl, hb⟩
  (replace R := Lib.hid (R.out.belowS hb); replace S := Lib.hid (S.out.belowS hb); replace B := Lib.hid (B.out.trans (hb.mono B.out.size)); clear hb)
  clear a0 a1 a2 af0 af1 af2
  have x0 := R.out.lt
  have x1 := S.out.lt
  obtain ⟨d0, d1, d2, df0, df1, df2⟩ := S.out.c3
  have T : Hid (RowAt (w1.alloc (logO ⟨#[]⟩ 0 (.slice none 0 0))) w1.heap.size #[.string ⟨#[]⟩, .int .i64 0, .slice none 0 0] 49) := Lib.hid (RowAt.new _ _ _)
  obtain ⟨t0, t1, t2, tf0, tf1, tf2⟩ := T.out.c3
  go_wp2
  refine bodyPost_ret (v := .tuple #[log0, .int .i64 1]) (by simp [results, Try.results42, go_sem, d0, d1, d2, x1]) rfl ⟨rfl, ?_⟩
  exact (((B.out.setCell (p := ⟨w.heap.size + 1, 0, none⟩) (by simp) _).setCell (p := ⟨w.heap.size + 1, 1, none⟩) (by simp) _).setCell (p := ⟨w.heap.size + 1, 2, none⟩) (by simp) _).alloc (by simp; omega) _

set_option maxHeartbeats 2000000 in
theorem ropen_any (b : ByteArray) (n : Int) (w : World) (hb : b.size ≤ 1000000) :
    Calls Try.prog 50 #[dev b n] w fun e w' => ∃ v, e = .returned (logV (b.extract 0 (scanL (bl b)).2) ((scanL (bl b)).2 : Int) v) ∧ OwnS w' w.heap.size v ((scanL (bl b)).1.map mkS) ∧ Below w.heap.size w w' := by
  have KS := fun w => rcrcScan_any b w hb
  have hk := scan_far' b
  unfold Scanned at KS
  generalize scanL (bl b) = X at *
  obtain ⟨X1, k⟩ := X
  simp only at KS hk
  have KS := Lib.hid KS
  have R : Hid (RowAt ((w.alloc (devO b n)).alloc (logO ⟨#[]⟩ 0 (.slice none 0 0))) w.heap.size #[.string b, .int .i64 n] 47) := Lib.hid ((RowAt.new _ _ _).alloc _)
  have S : Hid (RowAt ((w.alloc (devO b n)).alloc (logO ⟨#[]⟩ 0 (.slice none 0 0))) (w.heap.size + 1) #[.string ⟨#[]⟩, .int .i64 0, .slice none 0 0] 49) := Lib.hid (RowAt.new' _ _ _ (by simp))
  have B : Hid (Below w.heap.size w ((w.alloc (devO b n)).alloc (logO ⟨#[]⟩ 0 (.slice none 0 0)))) := Lib.hid (below_box2 _ _ _)
  generalize X1.map mkS = L at *
  go_enter Try.func50, Try.ntmps50
  obtain ⟨a0, a1, af0, af1⟩ := R.out.c2
  go_wp2_with fail
  refine (KS.out _).mono ?_
  rintro e w2 ⟨v, rfl, o, hb⟩
  have O := Lib.hid (o.mono (b := w.heap.size + 2) (by simp))
  obtain ⟨p', cap', rfl, _⟩ := strRow_slice o.row
  generalize L.length = m at *
  clear o
  (replace R := Lib.hid (R.out.belowS hb); replace S := Lib.hid (S.out.belowS hb); replace B := Lib.hid (B.out.trans (hb.mono B.out.size)); clear hb)
  clear a0 a1 af0 af1
  obtain ⟨a0, a1, af0, af1⟩ := R.out.c2
  obtain ⟨d0, d1, d2, df0, df1, df2⟩ := S.out.c3
  go_wp2
  refine bodyPost_ret (v := logV (b.extract 0 k) k (.slice p' m cap')) (by simp [results, Try.results50, go_sem, d0, d1, d2]) rfl ⟨_, rfl, ?_, ?_⟩
  · exact (((O.out.setLow _ _ (by simp)).setLow _ _ (by simp)).setLow _ _ (by simp)).mono (by omega)
  · exact ((B.out.setCell (p := ⟨w.heap.size + 1, 0, none⟩) (by simp) _).setCell (p := ⟨w.heap.size + 1, 1, none⟩) (by simp) _).setCell (p := ⟨w.heap.size + 1, 2, none⟩) (by simp) _

set_option maxHeartbeats 2000000 in
theorem rlike_yes (b : ByteArray) (n : Int) (u v : Value) (l : List ByteArray) (w : World) (hu : StrRow w u l) (hv : StrRow w v l) :
    Calls Try.prog 46 #[logV b n u, logV b n v] w fun e w' => e = .returned (.bool true) ∧ Below w.heap.size w w' := by
  have R : Hid (RowAt ((w.alloc (logO b n u)).alloc (logO b n v)) w.heap.size #[.string b, .int .i64 n, u] 49) := Lib.hid ((RowAt.new _ _ _).alloc _)
  have S : Hid (RowAt ((w.alloc (logO b n u)).alloc (logO b n v)) (w.heap.size + 1) #[.string b, .int .i64 n, v] 49) := Lib.hid (RowAt.new' _ _ _ (by simp))
  have B : Hid (Below w.heap.size w ((w.alloc (logO b n u)).alloc (logO b n v))) := Lib.hid (below_box2 _ _ _)
  have HU := Lib.hid (hu.below B.out (Nat.le_refl _))
  have HV := Lib.hid (hv.below B.out (Nat.le_refl _))
  clear hu hv
  go_enter Try.func46, Try.ntmps46
  obtain ⟨a0, a1, a2, af0, af1, af2⟩ := R.out.c3
  obtain ⟨d0, d1, d2, df0, df1, df2⟩ := S.out.c3
  go_wp2_with fail
  refine (same_yes u v l _ HU.out HV.out).mono ?_
  rintro e w1 ⟨rfl, hb⟩
  (replace B := Lib.hid (B.out.trans (hb.mono B.out.size)); clear hb)
  go_wp2_with fail
  go_ret
  exact ⟨rfl, B.out⟩

/-- The first 'm' of a slice. -/
def takeV (v : Value) (m : Nat) : Value := match v with | .slice p _ c => .slice p m c | v => v

theorem takeV_row {w : World} {v : Value} {l : List ByteArray} (h : StrRow w v l) {m : Nat} (hm : m ≤ l.length) : StrRow w (takeV v m) (l.take m) := by
  rcases h with ⟨rfl, rfl⟩ | ⟨a, len, cap, rfl, h1, h2, h3, hc⟩
  · obtain rfl : m = 0 := by simpa using hm
    exact .inl ⟨rfl, rfl⟩
  · refine .inr ⟨a, m, cap, rfl, by omega, h2, by rw [List.length_take]; omega, fun i hi => ?_⟩
    rw [hc i (by omega)]
    simp [List.getD, List.getElem?_take, hi]

set_option maxHeartbeats 2000000 in
theorem few_any (b : ByteArray) (n : Int) (v : Value) (ss : List ByteArray) (w : World) (hv : StrRow w v ss) (hb : b.size ≤ 9223372036854775807) (m1 m2 : Nat) (h1 : MinIs 6000 b.size m1) (h2 : MinIs 60 ss.length m2) :
    Calls Try.prog 38 #[logV b n v] w fun e w' => e = .returned (logV (b.extract 0 m1) n (takeV v m2)) ∧ Below w.heap.size w w' := by
  obtain ⟨h11, h12, h13⟩ := h1
  obtain ⟨h21, h22, h23⟩ := h2
  have R : Hid (RowAt ((w.alloc (logO b n v)).alloc (logO ⟨#[]⟩ 0 (.slice none 0 0))) w.heap.size #[.string b, .int .i64 n, v] 49) := Lib.hid ((RowAt.new _ _ _).alloc _)
  have S : Hid (RowAt ((w.alloc (logO b n v)).alloc (logO ⟨#[]⟩ 0 (.slice none 0 0))) (w.heap.size + 1) #[.string ⟨#[]⟩, .int .i64 0, .slice none 0 0] 49) := Lib.hid (RowAt.new' _ _ _ (by simp))
  have B : Hid (Below w.heap.size w ((w.alloc (logO b n v)).alloc (logO ⟨#[]⟩ 0 (.slice none 0 0)))) := Lib.hid (below_box2 _ _ _)
  rcases hv with ⟨rfl, rfl⟩ | ⟨a, len, cap, rfl, l1, l2, rfl, hc⟩
  · obtain rfl : m2 = 0 := by simpa using h22
    clear h21
    go_enter Try.func38, Try.ntmps38
    obtain ⟨a0, a1, a2, af0, af1, af2⟩ := R.out.c3
    obtain ⟨d0, d1, d2, df0, df1, df2⟩ := S.out.c3
    go_wp2
    go_region
    go_wp2
    refine bodyPost_ret (v := logV (b.extract 0 m1) n (.slice none 0 0)) (by simp [results, Try.results38, go_sem]) rfl ⟨rfl, ?_⟩
    exact (below_box2 _ _ _).drew
  · clear hc
    have l3 : m2 ≤ cap := by omega
    unfold maxLen at l2
    go_enter Try.func38, Try.ntmps38
    obtain ⟨a0, a1, a2, af0, af1, af2⟩ := R.out.c3
    obtain ⟨d0, d1, d2, df0, df1, df2⟩ := S.out.c3
    go_wp2
    go_region
    go_wp2
    refine bodyPost_ret (v := logV (b.extract 0 m1) n (.slice (some a) m2 cap)) (by simp [results, Try.results38, go_sem]) rfl ⟨rfl, ?_⟩
    exact (below_box2 _ _ _).drew

set_option maxHeartbeats 2000000 in
theorem alive13 (w : World) : Calls Try.prog 48 #[] w fun e w' => e = .returned (.bool true) ∧ Below w.heap.size w w' := by
  have h0 : LogOk ⟨#[]⟩ 0 [] := ⟨⟨by decide, by decide, by decide⟩, fun s hs => (by cases hs), rfl⟩
  have KA := fun w => wappend_yes ⟨#[]⟩ 0 (.slice none 0 0) [] ⟨#[97]⟩ w (.inl ⟨rfl, rfl⟩) h0 (by decide) (by decide) (by decide)
  obtain ⟨C, hC⟩ : ∃ C, (⟨#[]⟩ : ByteArray) ++ mkS (frameL (bl ⟨#[97]⟩)) = C := ⟨_, rfl⟩
  have hz : C.size = 7 := by rw [← hC]; show ((⟨#[]⟩ : ByteArray) ++ _).size = 7; rw [ByteArray.size_append, mk_size, frameL_length, bl_length]; rfl
  simp only [hC] at KA
  have KA := Lib.hid KA
  have hz2 : 0 < (C.size : Int) := by omega
  have hz3 : 0 < C.size := by omega
  have B : Hid (Below w.heap.size w w) := Lib.hid (Below.refl _ _)
  clear hC hz
  go_enter Try.func48, Try.ntmps48
  go_wp2_with fail
  refine (wnew_any _).mono ?_
  rintro e w1 ⟨rfl, hb⟩
  (replace B := Lib.hid (B.out.trans (hb.mono B.out.size)); clear hb)
  go_wp2_with fail
  refine (KA.out _).mono ?_
  rintro e w2 ⟨v', rfl, o, hb⟩
  (replace B := Lib.hid (B.out.trans (hb.mono B.out.size)); clear hb)
  replace o : OwnS w2 w1.heap.size v' [⟨#[97]⟩] := o
  rcases (strRow_slice o.row) with ⟨p', cap', rfl, q1, q2, q3, q4⟩
  obtain ⟨a, rfl, hc⟩ := q4 0 (by decide)
  replace hc : w2.cell? (a.add 0) = some (.string ⟨#[97]⟩) := hc
  have hlt := block_lt_of_cell hc
  rw [addr_add_block] at hlt
  have a0 : a.add 0 = a := by simp [Addr.add]
  rw [a0] at hc
  clear q4 o a0 h0
  go_wp2_with fail
  go_ret
  exact ⟨rfl, B.out.alloc B.out.size _⟩

/-- What few makes of a log that came in. -/
theorem few_use (b : ByteArray) (n : Int) (v : Value) (ss : List ByteArray) (w : World) (hv : StrRow w v ss) (hz : ∀ i, (ss.getD i ByteArray.empty).size ≤ maxLen) (hb : b.size ≤ 9223372036854775807) :
    ∃ (b' : ByteArray) (p : Option Addr) (cap : Nat) (ss' : List ByteArray), b'.size ≤ 6000 ∧ ss'.length ≤ 60 ∧ (∀ i, (ss'.getD i ByteArray.empty).size ≤ 9223372036854775807) ∧ StrRow w (.slice p ss'.length cap) ss' ∧
      ∀ w', StrRow w' v ss → Calls Try.prog 38 #[logV b n v] w' fun e w'' => e = .returned (logV b' n (.slice p ss'.length cap)) ∧ Below w'.heap.size w' w'' := by
  obtain ⟨m1, h1⟩ := minIs_ex 6000 (by omega) b.size
  obtain ⟨m2, h2⟩ := minIs_ex 60 (by omega) ss.length
  have hr := takeV_row hv h2.2.1
  obtain ⟨p, cap, e, _⟩ := strRow_slice hr
  rw [e] at hr
  have hl : (ss.take m2).length ≤ 60 := by have := h2.2.2; rw [List.length_take]; omega
  refine ⟨b.extract 0 m1, p, cap, ss.take m2, ?_, hl, fun i => ?_, hr, fun w' hv' => ?_⟩
  · rw [ByteArray.size_extract]
    have := h1.2.2
    omega
  · unfold maxLen at hz
    by_cases hi : i < (ss.take m2).length
    · have := hz i
      rw [List.getD, List.getElem?_take] at *
      split
      · exact this
      · simp
    · rw [List.getD, List.getElem?_eq_none (by omega)]
      simp
  · have := few_any b n v ss w' hv' hb m1 m2 h1 h2
    rw [e] at this
    exact this
end Go.Proofs.Ytddeeejfmodgfaa
