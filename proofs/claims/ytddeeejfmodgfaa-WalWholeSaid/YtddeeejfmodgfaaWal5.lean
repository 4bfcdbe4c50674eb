/- Wal: contracts of the program: Begin refused, Append, Open, New. -/
import Derived.Test.YtddeeejfmodgfaaWal4
namespace Go.Proofs.Ytddeeejfmodgfaa
open Go.RowKit

abbrev logO (b : ByteArray) (n : Int) (v : Value) : Obj := .cells #[.string b, .int .i64 n, v] 49
abbrev devO (b : ByteArray) (n : Int) : Obj := .cells #[.string b, .int .i64 n] 47

theorem below_box2 (w : World) (o o' : Obj) : Below w.heap.size w ((w.alloc o).alloc o') := ((Below.refl w.heap.size w).alloc (Nat.le_refl _) _).alloc (by simp) _

set_option maxHeartbeats 2000000 in
theorem wbegin_no (b : ByteArray) (n : Int) (v : Value) (ss : List ByteArray) (r : ByteArray) (w : World) (hv : StrRow w v ss) (hb : (b.size : Int) ≤ 9223372036854775807) (hrz : r.size ≤ 9223372036854775807) (h : ¬ (LogOk b n ss ∧ 1 ≤ r.size ∧ r.size ≤ 4000)) :
    Calls Try.prog 39 #[logV b n v, .string r] w fun e w' => e = .returned (.tuple #[log0, .int .i64 1]) ∧ Below w.heap.size w w' := by
  have HV := Lib.hid hv
  have R : Hid (RowAt ((w.alloc (logO b n v)).alloc (logO ⟨#[]⟩ 0 (.slice none 0 0))) w.heap.size #[.string b, .int .i64 n, v] 49) := Lib.hid ((RowAt.new _ _ _).alloc _)
  have S : Hid (RowAt ((w.alloc (logO b n v)).alloc (logO ⟨#[]⟩ 0 (.slice none 0 0))) (w.heap.size + 1) #[.string ⟨#[]⟩, .int .i64 0, .slice none 0 0] 49) := Lib.hid (RowAt.new' _ _ _ (by simp))
  have B : Hid (Below w.heap.size w ((w.alloc (logO b n v)).alloc (logO ⟨#[]⟩ 0 (.slice none 0 0)))) := Lib.hid (below_box2 _ _ _)
  by_cases hl : LogOk b n ss
  · have hr : ¬ (1 ≤ r.size ∧ r.size ≤ 4000) := fun e => h ⟨hl, e⟩
    have KF := Lib.hid (fun w => crcFrame_no r w hrz hr)
    have KR := Lib.hid (fun w hv => wright_yes b n v ss w hv hl)
    clear hl hr h hv
    go_enter Try.func39, Try.ntmps39
    go_wp2_with fail
    refine (KF.out _).mono ?_
    rintro e w1 ⟨rfl, hb⟩
    (replace R := Lib.hid (R.out.belowS hb); replace S := Lib.hid (S.out.belowS hb); replace B := Lib.hid (B.out.trans (hb.mono B.out.size)); clear hb)
    obtain ⟨a0, a1, a2, af0, af1, af2⟩ := R.out.c3
    go_wp2_with fail
    refine (KR.out _ (HV.out.below B.out (Nat.le_refl _))).mono ?_
    rintro e w2 ⟨rfl, hb⟩
    (replace R := Lib.hid (R.out.belowS hb); replace S := Lib.hid (S.out.belowS hb); replace B := Lib.hid (B.out.trans (hb.mono B.out.size)); clear hb)
    clear a0 a1 a2 af0 af1 af2
    obtain ⟨d0, d1, d2, df0, df1, df2⟩ := S.out.c3
    go_wp2
    refine bodyPost_ret (v := .tuple #[log0, .int .i64 1]) (by simp [results, Try.results39, go_sem, d0, d1, d2]) rfl ⟨rfl, ?_⟩
    exact ((B.out.setCell (p := ⟨w.heap.size + 1, 0, none⟩) (by simp) _).setCell (p := ⟨w.heap.size + 1, 1, none⟩) (by simp) _).setCell (p := ⟨w.heap.size + 1, 2, none⟩) (by simp) _
  · have KF := Lib.hid (fun w => frame_some r w hrz)
    have KR := Lib.hid (fun w hv => wright_no b n v ss w hb hv hl)
    clear hl h hv
    go_enter Try.func39, Try.ntmps39
    go_wp2_with fail
    refine (KF.out _).mono ?_
    rintro e w1 ⟨⟨F, c, rfl⟩, hb⟩
    (replace R := Lib.hid (R.out.belowS hb); replace S := Lib.hid (S.out.belowS hb); replace B := Lib.hid (B.out.trans (hb.mono B.out.size)); clear hb)
    obtain ⟨a0, a1, a2, af0, af1, af2⟩ := R.out.c3
    go_wp2_with fail
    refine (KR.out _ (HV.out.below B.out (Nat.le_refl _))).mono ?_
    rintro e w2 ⟨rfl, hb⟩
    (replace R := Lib.hid (R.out.belowS hb); replace S := Lib.hid (S.out.belowS hb); replace B := Lib.hid (B.out.trans (hb.mono B.out.size)); clear hb)
    clear a0 a1 a2 af0 af1 af2
    obtain ⟨d0, d1, d2, df0, df1, df2⟩ := S.out.c3
    go_wp2
    refine bodyPost_ret (v := .tuple #[log0, .int .i64 1]) (by simp [results, Try.results39, go_sem, d0, d1, d2]) rfl ⟨rfl, ?_⟩
    exact ((B.out.setCell (p := ⟨w.heap.size + 1, 0, none⟩) (by simp) _).setCell (p := ⟨w.heap.size + 1, 1, none⟩) (by simp) _).setCell (p := ⟨w.heap.size + 1, 2, none⟩) (by simp) _

theorem strRow_setLow {w : World} {base : Nat} {v : Value} {l : List ByteArray} (h : OwnS w base v l) (a : Addr) (x : Value) (ha : a.block < base) : StrRow (w.setCell a x) v l := (h.setLow a x ha).row

set_option maxHeartbeats 2000000 in
theorem wappend_yes (b : ByteArray) (n : Int) (v : Value) (ss : List ByteArray) (r : ByteArray) (w : World) (hv : StrRow w v ss) (h : LogOk b n ss) (hr : 1 ≤ r.size ∧ r.size ≤ 4000) (hb : b.size ≤ 190000) (hn : ss.length ≤ 100000) :
    Calls Try.prog 41 #[logV b n v, .string r] w fun e w' => ∃ v', e = .returned (.tuple #[logV (b ++ mkS (frameL (bl r))) ((b ++ mkS (frameL (bl r))).size) v', .int .i64 0]) ∧ OwnS w' w.heap.size v' (ss ++ [r]) ∧ Below w.heap.size w w' := by
  have HV := Lib.hid hv
  have R : Hid (RowAt ((w.alloc (logO b n v)).alloc (logO ⟨#[]⟩ 0 (.slice none 0 0))) w.heap.size #[.string b, .int .i64 n, v] 49) := Lib.hid ((RowAt.new _ _ _).alloc _)
  have S : Hid (RowAt ((w.alloc (logO b n v)).alloc (logO ⟨#[]⟩ 0 (.slice none 0 0))) (w.heap.size + 1) #[.string ⟨#[]⟩, .int .i64 0, .slice none 0 0] 49) := Lib.hid (RowAt.new' _ _ _ (by simp))
  have B : Hid (Below w.heap.size w ((w.alloc (logO b n v)).alloc (logO ⟨#[]⟩ 0 (.slice none 0 0)))) := Lib.hid (below_box2 _ _ _)
  have KB := Lib.hid (fun w hv => wbegin_yes b n v ss r w hv h hr hb hn)
  have zF : (mkS (frameL (bl r))).size ≤ 4006 := by rw [mk_size, frameL_length, bl_length]; omega
  obtain ⟨⟨h1, h2, h3⟩, h4⟩ := h
  generalize mkS (frameL (bl r)) = F at *
  have hz : (b ++ F).size = b.size + F.size := ByteArray.size_append
  have KS := Lib.hid (fun w => sync_yes (b ++ F) n w (by omega) h2 (by omega))
  generalize b ++ F = C at *
  clear hz h4 hv hr
  go_enter Try.func41, Try.ntmps41
  obtain ⟨a0, a1, a2, af0, af1, af2⟩ := R.out.c3
  go_wp2_with fail
  refine (KB.out _ (HV.out.below B.out (Nat.le_refl _))).mono ?_
  rintro e w1 ⟨v', rfl, o1, hb⟩
  obtain ⟨p', cap', rfl, _⟩ := strRow_slice o1.row
  have hsz : ((w.alloc (logO b n v)).alloc (logO ⟨#[]⟩ 0 (.slice none 0 0))).heap.size = w.heap.size + 2 := by simp
  rw [hsz] at o1
  have O := Lib.hid o1
  (replace R := Lib.hid (R.out.belowS hb); replace S := Lib.hid (S.out.belowS hb); replace B := Lib.hid (B.out.trans (hb.mono B.out.size)); clear hb)
  generalize (ss ++ [r]).length = m at *
  clear o1 hsz
  clear a0 a1 a2 af0 af1 af2
  obtain ⟨a0, a1, a2, af0, af1, af2⟩ := R.out.c3
  go_wp2_with fail
  replace R : Hid (RowAt (((w1.setCell ⟨w.heap.size, 0, none⟩ (.string C)).setCell ⟨w.heap.size, 1, none⟩ (.int .i64 n)).setCell ⟨w.heap.size, 2, none⟩ (.slice p' m cap')) w.heap.size #[.string C, .int .i64 n, .slice p' m cap'] 49) :=
    Lib.hid (((R.out.set 0 _ rfl).set 1 _ rfl).set 2 _ rfl)
  replace S : Hid (RowAt (((w1.setCell ⟨w.heap.size, 0, none⟩ (.string C)).setCell ⟨w.heap.size, 1, none⟩ (.int .i64 n)).setCell ⟨w.heap.size, 2, none⟩ (.slice p' m cap')) (w.heap.size + 1) #[.string ⟨#[]⟩, .int .i64 0, .slice none 0 0] 49) :=
    Lib.hid (((S.out.other _ _ (by simp)).other _ _ (by simp)).other _ _ (by simp))
  replace O : Hid (OwnS (((w1.setCell ⟨w.heap.size, 0, none⟩ (.string C)).setCell ⟨w.heap.size, 1, none⟩ (.int .i64 n)).setCell ⟨w.heap.size, 2, none⟩ (.slice p' m cap')) (w.heap.size + 2) (.slice p' m cap') (ss ++ [r])) :=
    Lib.hid (((O.out.setLow _ _ (by simp)).setLow _ _ (by simp)).setLow _ _ (by simp))
  replace B := Lib.hid (((B.out.setCell (p := ⟨w.heap.size, 0, none⟩) (Nat.le_refl _) (.string C)).setCell (p := ⟨w.heap.size, 1, none⟩) (Nat.le_refl _) (.int .i64 n)).setCell (p := ⟨w.heap.size, 2, none⟩) (Nat.le_refl _) (.slice p' m cap'))
  refine (KS.out _).mono ?_
  rintro e w2 ⟨rfl, hb⟩
  (replace R := Lib.hid (R.out.belowS hb); replace S := Lib.hid (S.out.belowS hb); replace O := Lib.hid (O.out.below hb (Nat.le_refl _)); replace B := Lib.hid (B.out.trans (hb.mono B.out.size)); clear hb)
  clear a0 a1 a2 af0 af1 af2
  obtain ⟨a0, a1, a2, af0, af1, af2⟩ := R.out.c3
  obtain ⟨d0, d1, d2, df0, df1, df2⟩ := S.out.c3
  go_wp2
  refine bodyPost_ret (v := .tuple #[logV C C.size (.slice p' m cap'), .int .i64 0]) (by simp [results, Try.results41, go_sem, d0, d1, d2]) rfl ⟨_, rfl, ?_, ?_⟩
  · exact (((((O.out.setLow _ _ (by simp)).setLow _ _ (by simp)).setLow _ _ (by simp)).setLow _ _ (by simp)).setLow _ _ (by simp)).mono (by first | omega | simp)
  · exact ((((B.out.setCell (p := ⟨w.heap.size, 0, none⟩) (by simp) _).setCell (p := ⟨w.heap.size, 1, none⟩) (by simp) _).setCell (p := ⟨w.heap.size + 1, 0, none⟩) (by simp) _).setCell (p := ⟨w.heap.size + 1, 1, none⟩) (by simp) _).setCell (p := ⟨w.heap.size + 1, 2, none⟩) (by simp) _

set_option maxHeartbeats 2000000 in
theorem wappend_no (b : ByteArray) (n : Int) (v : Value) (ss : List ByteArray) (r : ByteArray) (w : World) (hv : StrRow w v ss) (hb : (b.size : Int) ≤ 9223372036854775807) (hrz : r.size ≤ 9223372036854775807) (h : ¬ (LogOk b n ss ∧ 1 ≤ r.size ∧ r.size ≤ 4000)) :
    Calls Try.prog 41 #[logV b n v, .string r] w fun e w' => e = .returned (.tuple #[log0, .int .i64 1]) ∧ Below w.heap.size w w' := by
  have HV := Lib.hid hv
  have R : Hid (RowAt ((w.alloc (logO b n v)).alloc (logO ⟨#[]⟩ 0 (.slice none 0 0))) w.heap.size #[.string b, .int .i64 n, v] 49) := Lib.hid ((RowAt.new _ _ _).alloc _)
  have S : Hid (RowAt ((w.alloc (logO b n v)).alloc (logO ⟨#[]⟩ 0 (.slice none 0 0))) (w.heap.size + 1) #[.string ⟨#[]⟩, .int .i64 0, .slice none 0 0] 49) := Lib.hid (RowAt.new' _ _ _ (by simp))
  have B : Hid (Below w.heap.size w ((w.alloc (logO b n v)).alloc (logO ⟨#[]⟩ 0 (.slice none 0 0)))) := Lib.hid (below_box2 _ _ _)
  have KB := Lib.hid (fun w hv => wbegin_no b n v ss r w hv hb hrz h)
  clear h hv
  go_enter Try.func41, Try.ntmps41
  obtain ⟨a0, a1, a2, af0, af1, af2⟩ := R.out.c3
  go_wp2_with fail
  refine (KB.out _ (HV.out.below B.out (Nat.le_refl _))).mono ?_
  rintro e w1 ⟨rfl, hb⟩
  (replace R := Lib.hid (R.out.belowS hb); replace S := Lib.hid (S.out.belowS hb); replace B := Lib.hid (B.out.trans (hb.mono B.out.size)); clear hb)
  clear a0 a1 a2 af0 af1 af2
  obtain ⟨a0, a1, a2, af0, af1, af2⟩ := R.out.c3
  obtain ⟨d0, d1, d2, df0, df1, df2⟩ := S.out.c3
  go_wp2
  refine bodyPost_ret (v := .tuple #[log0, .int .i64 1]) (by simp [results, Try.results41, go_sem, d0, d1, d2]) rfl ⟨rfl, ?_⟩
  exact (((((B.out.setCell (p := ⟨w.heap.size, 0, none⟩) (by simp) _).setCell (p := ⟨w.heap.size, 1, none⟩) (by simp) _).setCell (p := ⟨w.heap.size, 2, none⟩) (by simp) _).setCell (p := ⟨w.heap.size + 1, 0, none⟩) (by simp) _).setCell (p := ⟨w.heap.size + 1, 1, none⟩) (by simp) _).setCell (p := ⟨w.heap.size + 1, 2, none⟩) (by simp) _

set_option maxHeartbeats 1000000 in
theorem wnew_any (w : World) : Calls Try.prog 47 #[] w fun e w' => e = .returned log0 ∧ Below w.heap.size w w' := by
  have R : Hid (RowAt (w.alloc (logO ⟨#[]⟩ 0 (.slice none 0 0))) w.heap.size #[.string ⟨#[]⟩, .int .i64 0, .slice none 0 0] 49) := Lib.hid (RowAt.new _ _ _)
  obtain ⟨a0, a1, a2, af0, af1, af2⟩ := R.out.c3
  go_enter Try.func47, Try.ntmps47
  go_wp2
  refine bodyPost_ret (v := log0) (by simp [results, Try.results47, go_sem, a0, a1, a2]) rfl ⟨rfl, ?_⟩
  exact (Below.refl w.heap.size w).alloc (Nat.le_refl _) _

theorem scan_far' (b : ByteArray) : (scanL (bl b)).2 ≤ b.size := by
  have := (scan_far _ (bl b) (Nat.le_refl _)).1
  rwa [bl_length] at this

set_option maxHeartbeats 2000000 in
theorem wopen_yes (b : ByteArray) (n : Int) (w : World) (h1 : (b.size : Int) ≤ 200000) (h2 : 0 ≤ n) (h3 : n ≤ (b.size : Int)) :
    Calls Try.prog 43 #[dev b n] w fun e w' => ∃ v, e = .returned (.tuple #[logV (b.extract 0 (scanL (bl b)).2) ((scanL (bl b)).2 : Int) v, .int .i64 0]) ∧ OwnS w' w.heap.size v ((scanL (bl b)).1.map mkS) ∧ Below w.heap.size w w' := by
  have KD := Lib.hid (fun w => dright_yes b n w h1 h2 h3)
  have KS := fun w => crcScan_any b w (by omega)
  have hk := scan_far' b
  unfold Scanned at KS
  generalize scanL (bl b) = X at *
  obtain ⟨X1, k⟩ := X
  simp only at KS hk
  have KS := Lib.hid KS
  have hz : (b.extract 0 k).size = k := by rw [ByteArray.size_extract]; omega
  obtain ⟨s, hs1, hs2, hs3⟩ : ∃ s : Int, ((n ≤ (k : Int) ∧ s = n) ∨ ((k : Int) < n ∧ s = (k : Int))) ∧ 0 ≤ s ∧ s ≤ (k : Int) := by
    by_cases c : n ≤ (k : Int)
    · exact ⟨n, .inl ⟨c, rfl⟩, h2, c⟩
    · exact ⟨k, .inr ⟨by omega, rfl⟩, by omega, Int.le_refl _⟩
  have KC := fun w => cut_yes b n k s w h1 h2 h3 (by omega) (by omega) hs1
  rw [Int.toNat_natCast] at KC
  have KY := fun w => sync_yes (b.extract 0 k) s w (by omega) hs2 (by omega)
  rw [hz] at KY
  have KC := Lib.hid KC
  have KY := Lib.hid KY
  have R : Hid (RowAt ((w.alloc (devO b n)).alloc (logO ⟨#[]⟩ 0 (.slice none 0 0))) w.heap.size #[.string b, .int .i64 n] 47) := Lib.hid ((RowAt.new _ _ _).alloc _)
  have S : Hid (RowAt ((w.alloc (devO b n)).alloc (logO ⟨#[]⟩ 0 (.slice none 0 0))) (w.heap.size + 1) #[.string ⟨#[]⟩, .int .i64 0, .slice none 0 0] 49) := Lib.hid (RowAt.new' _ _ _ (by simp))
  have B : Hid (Below w.heap.size w ((w.alloc (devO b n)).alloc (logO ⟨#[]⟩ 0 (.slice none 0 0)))) := Lib.hid (below_box2 _ _ _)
  generalize b.extract 0 k = C at *
  generalize X1.map mkS = L at *
  clear hs1 hz
  go_enter Try.func43, Try.ntmps43
  obtain ⟨a0, a1, af0, af1⟩ := R.out.c2
  go_wp2_with fail
  refine (KD.out _).mono ?_
  rintro e w1 ⟨rfl, hb⟩
  (replace R := Lib.hid (R.out.belowS hb); replace S := Lib.hid (S.out.belowS hb); replace B := Lib.hid (B.out.trans (hb.mono B.out.size)); clear hb)
  clear a0 a1 af0 af1
  obtain ⟨a0, a1, af0, af1⟩ := R.out.c2
  go_wp2_with fail
  refine (KS.out _).mono ?_
  rintro e w2 ⟨v, rfl, o, hb⟩
  have O := Lib.hid (o.mono (by have := S.out.lt; omega : w.heap.size + 2 ≤ _))
  obtain ⟨p', cap', rfl, _⟩ := strRow_slice o.row
  generalize L.length = m at *
  clear o
  (replace R := Lib.hid (R.out.belowS hb); replace S := Lib.hid (S.out.belowS hb); replace B := Lib.hid (B.out.trans (hb.mono B.out.size)); clear hb)
  clear a0 a1 af0 af1
  obtain ⟨a0, a1, af0, af1⟩ := R.out.c2
  go_wp2_with fail
  refine (KC.out _).mono ?_
  rintro e w3 ⟨rfl, hb⟩
  (replace R := Lib.hid (R.out.belowS hb); replace S := Lib.hid (S.out.belowS hb); replace O := Lib.hid (O.out.below hb (Nat.le_refl _)); replace B := Lib.hid (B.out.trans (hb.mono B.out.size)); clear hb)
  clear a0 a1 af0 af1
  obtain ⟨a0, a1, af0, af1⟩ := R.out.c2
  go_wp2_with fail
  replace R : Hid (RowAt ((w3.setCell ⟨w.heap.size, 0, none⟩ (.string C)).setCell ⟨w.heap.size, 1, none⟩ (.int .i64 s)) w.heap.size #[.string C, .int .i64 s] 47) :=
    Lib.hid ((R.out.set 0 _ rfl).set 1 _ rfl)
  replace S : Hid (RowAt ((w3.setCell ⟨w.heap.size, 0, none⟩ (.string C)).setCell ⟨w.heap.size, 1, none⟩ (.int .i64 s)) (w.heap.size + 1) #[.string ⟨#[]⟩, .int .i64 0, .slice none 0 0] 49) :=
    Lib.hid ((S.out.other _ _ (by simp)).other _ _ (by simp))
  replace O : Hid (OwnS ((w3.setCell ⟨w.heap.size, 0, none⟩ (.string C)).setCell ⟨w.heap.size, 1, none⟩ (.int .i64 s)) (w.heap.size + 2) (.slice p' m cap') L) :=
    Lib.hid ((O.out.setLow _ _ (by simp)).setLow _ _ (by simp))
  replace B := Lib.hid ((B.out.setCell (p := ⟨w.heap.size, 0, none⟩) (Nat.le_refl _) (.string C)).setCell (p := ⟨w.heap.size, 1, none⟩) (Nat.le_refl _) (.int .i64 s))
  refine (KY.out _).mono ?_
  rintro e w4 ⟨rfl, hb⟩
  (replace R := Lib.hid (R.out.belowS hb); replace S := Lib.hid (S.out.belowS hb); replace O := Lib.hid (O.out.below hb (Nat.le_refl _)); replace B := Lib.hid (B.out.trans (hb.mono B.out.size)); clear hb)
  clear a0 a1 af0 af1
  obtain ⟨a0, a1, af0, af1⟩ := R.out.c2
  obtain ⟨d0, d1, d2, df0, df1, df2⟩ := S.out.c3
  go_wp2
  refine bodyPost_ret (v := .tuple #[logV C k (.slice p' m cap'), .int .i64 0]) (by simp [results, Try.results43, go_sem, d0, d1, d2]) rfl ⟨_, rfl, ?_, ?_⟩
  · exact (((((O.out.setLow _ _ (by simp)).setLow _ _ (by simp)).setLow _ _ (by simp)).setLow _ _ (by simp)).setLow _ _ (by simp)).mono (by first | omega | simp)
  · exact ((((B.out.setCell (p := ⟨w.heap.size, 0, none⟩) (by simp) _).setCell (p := ⟨w.heap.size, 1, none⟩) (by simp) _).setCell (p := ⟨w.heap.size + 1, 0, none⟩) (by simp) _).setCell (p := ⟨w.heap.size + 1, 1, none⟩) (by simp) _).setCell (p := ⟨w.heap.size + 1, 2, none⟩) (by simp) _

set_option maxHeartbeats 2000000 in
theorem wopen_no (b : ByteArray) (n : Int) (w : World) (hb : (b.size : Int) ≤ 9223372036854775807) (h : 200000 < (b.size : Int) ∨ n < 0 ∨ (b.size : Int) < n) :
    Calls Try.prog 43 #[dev b n] w fun e w' => e = .returned (.tuple #[log0, .int .i64 1]) ∧ Below w.heap.size w w' := by
  have KD := Lib.hid (fun w => dright_no b n w hb h)
  have R : Hid (RowAt ((w.alloc (devO b n)).alloc (logO ⟨#[]⟩ 0 (.slice none 0 0))) w.heap.size #[.string b, .int .i64 n] 47) := Lib.hid ((RowAt.new _ _ _).alloc _)
  have S : Hid (RowAt ((w.alloc (devO b n)).alloc (logO ⟨#[]⟩ 0 (.slice none 0 0))) (w.heap.size + 1) #[.string ⟨#[]⟩, .int .i64 0, .slice none 0 0] 49) := Lib.hid (RowAt.new' _ _ _ (by simp))
  have B : Hid (Below w.heap.size w ((w.alloc (devO b n)).alloc (logO ⟨#[]⟩ 0 (.slice none 0 0)))) := Lib.hid (below_box2 _ _ _)
  clear h
  go_enter Try.func43, Try.ntmps43
  obtain ⟨a0, a1, af0, af1⟩ := R.out.c2
  go_wp2_with fail
  refine (KD.out _).mono ?_
  rintro e w1 ⟨rfl, hb⟩
  (replace R := Lib.hid (R.out.belowS hb); replace S := Lib.hid (S.out.belowS hb); replace B := Lib.hid (B.out.trans (hb.mono B.out.size)); clear hb)
  clear a0 a1 af0 af1
  obtain ⟨d0, d1, d2, df0, df1, df2⟩ := S.out.c3
  go_wp2
  refine bodyPost_ret (v := .tuple #[log0, .int .i64 1]) (by simp [results, Try.results43, go_sem, d0, d1, d2]) rfl ⟨rfl, ?_⟩
  exact ((B.out.setCell (p := ⟨w.heap.size + 1, 0, none⟩) (by simp) _).setCell (p := ⟨w.heap.size + 1, 1, none⟩) (by simp) _).setCell (p := ⟨w.heap.size + 1, 2, none⟩) (by simp) _
end Go.Proofs.Ytddeeejfmodgfaa
