/- Wal: contracts of the reference: Begin, Append, Open, Like; the law's few and alive. -/
import Derived.Test.YtddeeejfmodgfaaWal5
import Derived.Laws.AppendOwnNone
namespace Go.Proofs.Ytddeeejfmodgfaa
open Go.RowKit

set_option maxHeartbeats 2000000 in
theorem rbegin_no (b : ByteArray) (n : Int) (v : Value) (ss : List ByteArray) (r : ByteArray) (w : World) (hv : StrRow w v ss) (hb : (b.size : Int) ≤ 9223372036854775807) (hrz : r.size ≤ 9223372036854775807)
    (hn : ss.length ≤ 100) (hsz : ∀ i, (ss.getD i ByteArray.empty).size ≤ 9223372036854775807) (h : ¬ (LogOk b n ss ∧ 1 ≤ r.size ∧ r.size ≤ 4000)) :
    Calls Try.prog 40 #[logV b n v, .string r] w fun e w' => e = .returned (.tuple #[log0, .int .i64 1]) ∧ Below w.heap.size w w' := by
  have HV := Lib.hid hv
  have R : Hid (RowAt ((w.alloc (logO b n v)).alloc (logO ⟨#[]⟩ 0 (.slice none 0 0))) w.heap.size #[.string b, .int .i64 n, v] 49) := Lib.hid ((RowAt.new _ _ _).alloc _)
  have S : Hid (RowAt ((w.alloc (logO b n v)).alloc (logO ⟨#[]⟩ 0 (.slice none 0 0))) (w.heap.size + 1) #[.string ⟨#[]⟩, .int .i64 0, .slice none 0 0] 49) := Lib.hid (RowAt.new' _ _ _ (by simp))
  have B : Hid (Below w.heap.size w ((w.alloc (logO b n v)).alloc (logO ⟨#[]⟩ 0 (.slice none 0 0)))) := Lib.hid (below_box2 _ _ _)
  by_cases hl : LogOk b n ss
  · have hr : ¬ (1 ≤ r.size ∧ r.size ≤ 4000) := fun e => h ⟨hl, e⟩
    have KI := fun w => isRec_any r w hrz
    rw [decide_eq_false hr] at KI
    have KI := Lib.hid KI
    have KR := Lib.hid (fun w hv => rlogRight_yes b n v ss w hv hl hn)
    clear hl hr h hv hsz
    go_enter Try.func40, Try.ntmps40
    obtain ⟨a0, a1, a2, af0, af1, af2⟩ := R.out.c3
    go_wp2_with fail
    refine (KR.out _ (HV.out.below B.out (Nat.le_refl _))).mono ?_
    rintro e w1 ⟨rfl, hb⟩
    (replace R := Lib.hid (R.out.belowS hb); replace S := Lib.hid (S.out.belowS hb); replace B := Lib.hid (B.out.trans (hb.mono B.out.size)); clear hb)
    clear a0 a1 a2 af0 af1 af2
    go_wp2_with fail
    refine (KI.out _).mono ?_
    rintro e w2 ⟨rfl, rfl⟩
    obtain ⟨d0, d1, d2, df0, df1, df2⟩ := S.out.c3
    go_wp2
    refine bodyPost_ret (v := .tuple #[log0, .int .i64 1]) (by simp [results, Try.results40, go_sem, d0, d1, d2]) rfl ⟨rfl, ?_⟩
    exact ((B.out.setCell (p := ⟨w.heap.size + 1, 0, none⟩) (by simp) _).setCell (p := ⟨w.heap.size + 1, 1, none⟩) (by simp) _).setCell (p := ⟨w.heap.size + 1, 2, none⟩) (by simp) _
  · have KR := Lib.hid (fun w hv => rlogRight_no b n v ss w hb hv hl hn hsz)
    clear hl h hv hsz
    go_enter Try.func40, Try.ntmps40
    obtain ⟨a0, a1, a2, af0, af1, af2⟩ := R.out.c3
    go_wp2_with fail
    refine (KR.out _ (HV.out.below B.out (Nat.le_refl _))).mono ?_
    rintro e w1 ⟨rfl, hb⟩
    (replace R := Lib.hid (R.out.belowS hb); replace S := Lib.hid (S.out.belowS hb); replace B := Lib.hid (B.out.trans (hb.mono B.out.size)); clear hb)
    clear a0 a1 a2 af0 af1 af2
    obtain ⟨d0, d1, d2, df0, df1, df2⟩ := S.out.c3
    go_wp2
    refine bodyPost_ret (v := .tuple #[log0, .int .i64 1]) (by simp [results, Try.results40, go_sem, d0, d1, d2]) rfl ⟨rfl, ?_⟩
    exact ((B.out.setCell (p := ⟨w.heap.size + 1, 0, none⟩) (by simp) _).setCell (p := ⟨w.heap.size + 1, 1, none⟩) (by simp) _).setCell (p := ⟨w.heap.size + 1, 2, none⟩) (by simp) _

set_option maxRecDepth 100000 in
set_option maxHeartbeats 2000000 in
theorem rbegin_yes (b : ByteArray) (n : Int) (v : Value) (ss : List ByteArray) (r : ByteArray) (w : World) (hv : StrRow w v ss) (h : LogOk b n ss) (hr : 1 ≤ r.size ∧ r.size ≤ 4000) (hb : b.size ≤ 190000) (hn : ss.length ≤ 100) :
    Calls Try.prog 40 #[logV b n v, .string r] w fun e w' => ∃ v', e = .returned (.tuple #[logV (b ++ mkS (frameL (bl r))) n v', .int .i64 0]) ∧ OwnS w' w.heap.size v' (ss ++ [r]) ∧ Below w.heap.size w w' := by
  obtain ⟨i0, hi, hz0, hz1, hz2⟩ := info_parts info_str
  have HV := Lib.hid hv
  have R : Hid (RowAt ((w.alloc (logO b n v)).alloc (logO ⟨#[]⟩ 0 (.slice none 0 0))) w.heap.size #[.string b, .int .i64 n, v] 49) := Lib.hid ((RowAt.new _ _ _).alloc _)
  have S : Hid (RowAt ((w.alloc (logO b n v)).alloc (logO ⟨#[]⟩ 0 (.slice none 0 0))) (w.heap.size + 1) #[.string ⟨#[]⟩, .int .i64 0, .slice none 0 0] 49) := Lib.hid (RowAt.new' _ _ _ (by simp))
  have B : Hid (Below w.heap.size w ((w.alloc (logO b n v)).alloc (logO ⟨#[]⟩ 0 (.slice none 0 0)))) := Lib.hid (below_box2 _ _ _)
  have KI := fun w => isRec_any r w (by omega)
  rw [decide_eq_true hr] at KI
  have KI := Lib.hid KI
  have KR := Lib.hid (fun w hv => rlogRight_yes b n v ss w hv h hn)
  have KF := Lib.hid (fun w => rcrcFrame_any r w hr.2)
  have zF : (mkS (frameL (bl r))).size ≤ 4006 := by rw [mk_size, frameL_length, bl_length]; omega
  generalize mkS (frameL (bl r)) = F at *
  have hz : (b ++ F).size = b.size + F.size := ByteArray.size_append
  have hz' : b.size + F.size ≤ 200000 := by omega
  clear h hr hz
  rcases hv with ⟨rfl, rfl⟩ | ⟨a, len, cap, rfl, l1, l2, rfl, hc⟩
  · go_enter Try.func40, Try.ntmps40
    obtain ⟨a0, a1, a2, af0, af1, af2⟩ := R.out.c3
    go_wp2_with fail
    refine (KR.out _ (HV.out.below B.out (Nat.le_refl _))).mono ?_
    rintro e w1 ⟨rfl, hb⟩
    (replace R := Lib.hid (R.out.belowS hb); replace S := Lib.hid (S.out.belowS hb); replace B := Lib.hid (B.out.trans (hb.mono B.out.size)); clear hb)
    clear a0 a1 a2 af0 af1 af2
    go_wp2_with fail
    refine (KI.out _).mono ?_
    rintro e w2 ⟨rfl, rfl⟩
    go_wp2_with fail
    refine (KF.out _).mono ?_
    rintro e w2 ⟨rfl, hb⟩
    (replace R := Lib.hid (R.out.belowS hb); replace S := Lib.hid (S.out.belowS hb); replace B := Lib.hid (B.out.trans (hb.mono B.out.size)); clear hb)
    obtain ⟨a0, a1, a2, af0, af1, af2⟩ := R.out.c3
    have x0 := R.out.lt
    have x1 := S.out.lt
    have X0 := Lib.hid x1
    replace R := Lib.hid (R.out.alloc (logO (b ++ F) n (.slice none 0 0)))
    replace S := Lib.hid (S.out.alloc (logO (b ++ F) n (.slice none 0 0)))
    replace B := Lib.hid (B.out.alloc (by omega) (logO (b ++ F) n (.slice none 0 0)))
    have T : Hid (RowAt (w2.alloc (logO (b ++ F) n (.slice none 0 0))) w2.heap.size #[.string (b ++ F), .int .i64 n, .slice none 0 0] 49) := Lib.hid (RowAt.new _ _ _)
    go_wp2_with (first
      | (at_builtin; refine wpList_append_own_none rfl _ _ 33 rfl w.heap.size 9 i0 1 Try.underlying33 hi _ 0 [] rfl (World.ownsRow_nil _ _ _ _) rfl ?_)
      | (at_builtin; refine wpList_append_str rfl _ _ rfl (w2.heap.size + 1) _ [] rfl (OwnS.nil _ _) ⟨w2.heap.size + 1, 0, none⟩ 1 1 [r] rfl rfl ?c1 ?c2 ?c3 ?c4))
    case c1 => exact one_str_at (by simp)
    case c2 => simp
    case c3 => simp
    intro v' w5 hown hbf hz5
    have hb := hbf _ (Below.refl (w2.heap.size + 1) _)
    replace R := Lib.hid ((R.out.alloc (.cells #[.string r] 9)).below hb (by omega))
    replace S := Lib.hid ((S.out.alloc (.cells #[.string r] 9)).below hb (by omega))
    replace T := Lib.hid ((T.out.alloc (.cells #[.string r] 9)).below hb (by omega))
    replace B := Lib.hid ((B.out.alloc (by simp; omega) (.cells #[.string r] 9)).trans (hb.mono (by omega)))
    replace hown : OwnS w5 (w2.heap.size + 1) v' [r] := hown
    have O := Lib.hid hown
    obtain ⟨p', cap', rfl, _⟩ := strRow_slice hown.row
    generalize [r].length = m at *
    clear hb hbf hown hz5
    clear a0 a1 a2 af0 af1 af2
    obtain ⟨d0, d1, d2, df0, df1, df2⟩ := S.out.c3
    obtain ⟨a0, a1, a2, af0, af1, af2⟩ := T.out.c3
    go_wp2
    refine bodyPost_ret (v := .tuple #[logV (b ++ F) n (.slice p' m cap'), .int .i64 0]) (by simp [results, Try.results40, go_sem, d0, d1, d2]) rfl ⟨_, rfl, ?_, ?_⟩
    · exact ((((O.out.setLow _ _ (by simp)).setLow _ _ (by simp; omega)).setLow _ _ (by simp; omega)).setLow _ _ (by simp; omega)).mono (by omega)
    · exact (((B.out.setCell (p := ⟨w2.heap.size, 2, none⟩) (by simp; omega) _).setCell (p := ⟨w.heap.size + 1, 0, none⟩) (by simp) _).setCell (p := ⟨w.heap.size + 1, 1, none⟩) (by simp) _).setCell (p := ⟨w.heap.size + 1, 2, none⟩) (by simp) _
  · have HC := Lib.hid hc
    clear hc
    go_enter Try.func40, Try.ntmps40
    obtain ⟨a0, a1, a2, af0, af1, af2⟩ := R.out.c3
    go_wp2_with fail
    refine (KR.out _ (HV.out.below B.out (Nat.le_refl _))).mono ?_
    rintro e w1 ⟨rfl, hb⟩
    (replace R := Lib.hid (R.out.belowS hb); replace S := Lib.hid (S.out.belowS hb); replace B := Lib.hid (B.out.trans (hb.mono B.out.size)); clear hb)
    clear a0 a1 a2 af0 af1 af2
    go_wp2_with fail
    refine (KI.out _).mono ?_
    rintro e w2 ⟨rfl, rfl⟩
    go_wp2_with fail
    refine (KF.out _).mono ?_
    rintro e w2 ⟨rfl, hb⟩
    (replace R := Lib.hid (R.out.belowS hb); replace S := Lib.hid (S.out.belowS hb); replace B := Lib.hid (B.out.trans (hb.mono B.out.size)); clear hb)
    obtain ⟨a0, a1, a2, af0, af1, af2⟩ := R.out.c3
    have x0 := R.out.lt
    have x1 := S.out.lt
    replace R := Lib.hid (R.out.alloc (logO (b ++ F) n (.slice none 0 0)))
    replace S := Lib.hid (S.out.alloc (logO (b ++ F) n (.slice none 0 0)))
    replace B := Lib.hid (B.out.alloc (by omega) (logO (b ++ F) n (.slice none 0 0)))
    have T : Hid (RowAt (w2.alloc (logO (b ++ F) n (.slice none 0 0))) w2.heap.size #[.string (b ++ F), .int .i64 n, .slice none 0 0] 49) := Lib.hid (RowAt.new _ _ _)
    have HC2 : Hid (∀ i, i < ss.length → (w2.alloc (logO (b ++ F) n (.slice none 0 0))).cell? (a.add i) = some (.string (ss.getD i ByteArray.empty))) := Lib.hid (fun i hi => by
      have := HC.out i hi
      rw [B.out.cell (block_lt_of_cell this)]
      exact this)
    go_wp2_with (first
      | (at_builtin; refine wpList_append_str rfl _ _ rfl (w2.heap.size + 1) _ [] rfl (OwnS.nil _ _) a ss.length cap ss rfl rfl ?e1 ?e2 ?e3 ?e4))
    case e1 =>
      intro j hj
      have := HC2.out j (by omega)
      rw [List.getD, List.getElem?_eq_getElem hj] at this
      exact this
    case e2 => simp; omega
    case e3 => simp
    intro v' w5 hown hbf hz5
    have hb := hbf _ (Below.refl (w2.heap.size + 1) _)
    replace R := Lib.hid (R.out.below hb (by omega))
    replace S := Lib.hid (S.out.below hb (by omega))
    replace T := Lib.hid (T.out.below hb (by omega))
    replace B := Lib.hid (B.out.trans (hb.mono (by omega)))
    replace hown : OwnS w5 (w2.heap.size + 1) v' ss := hown
    have O := Lib.hid hown
    obtain ⟨p', cap', rfl, _⟩ := strRow_slice hown.row
    have y2 : w2.heap.size + 1 ≤ w5.heap.size := by simpa using hz5
    clear hb hbf hown hz5 HC2
    clear a0 a1 a2 af0 af1 af2
    obtain ⟨a0, a1, a2, af0, af1, af2⟩ := T.out.c3
    have T5 : Hid (RowAt (w5.setCell ⟨w2.heap.size, 2, none⟩ (.slice p' ss.length cap')) w2.heap.size #[.string (b ++ F), .int .i64 n, .slice p' ss.length cap'] 49) := Lib.hid (T.out.set 2 _ rfl)
    replace R : Hid (RowAt (w5.setCell ⟨w2.heap.size, 2, none⟩ (.slice p' ss.length cap')) w.heap.size _ _) := Lib.hid (R.out.other _ _ (by simp; omega))
    replace S : Hid (RowAt (w5.setCell ⟨w2.heap.size, 2, none⟩ (.slice p' ss.length cap')) (w.heap.size + 1) _ _) := Lib.hid (S.out.other _ _ (by simp; omega))
    replace O : Hid (OwnS (w5.setCell ⟨w2.heap.size, 2, none⟩ (.slice p' ss.length cap')) (w2.heap.size + 1) _ _) := Lib.hid (O.out.setLow _ _ (by simp))
    replace B : Hid (Below w.heap.size w (w5.setCell ⟨w2.heap.size, 2, none⟩ (.slice p' ss.length cap'))) := Lib.hid (B.out.setCell (p := ⟨w2.heap.size, 2, none⟩) (by simp; omega) _)
    clear T
    go_wp2_with (first
      | (at_builtin; refine wpList_append_str rfl _ _ rfl (w2.heap.size + 1) _ ss rfl (O.out.alloc _) ⟨w5.heap.size, 0, none⟩ 1 1 [r] rfl rfl ?f1 ?f2 ?f3 ?f4))
    case f1 => exact one_str_at (by simp)
    case f2 => simp; omega
    case f3 => simp; omega
    intro v'' w6 hown hbf hz6
    have hb := hbf _ (Below.refl (w2.heap.size + 1) _)
    replace R := Lib.hid ((R.out.alloc (.cells #[.string r] 9)).below hb (by omega))
    replace S := Lib.hid ((S.out.alloc (.cells #[.string r] 9)).below hb (by omega))
    replace T5 := Lib.hid ((T5.out.alloc (.cells #[.string r] 9)).below hb (by omega))
    replace B := Lib.hid ((B.out.alloc (by simp; omega) (.cells #[.string r] 9)).trans (hb.mono (by omega)))
    have O := Lib.hid hown
    obtain ⟨p2, cap2, rfl, _⟩ := strRow_slice hown.row
    generalize (ss ++ [r]).length = m at *
    clear hb hbf hown hz6
    clear a0 a1 a2 af0 af1 af2
    obtain ⟨d0, d1, d2, df0, df1, df2⟩ := S.out.c3
    obtain ⟨a0, a1, a2, af0, af1, af2⟩ := T5.out.c3
    go_wp2
    refine bodyPost_ret (v := .tuple #[logV (b ++ F) n (.slice p2 m cap2), .int .i64 0]) (by simp [results, Try.results40, go_sem, d0, d1, d2]) rfl ⟨_, rfl, ?_, ?_⟩
    · exact ((((O.out.setLow _ _ (by simp)).setLow _ _ (by simp; omega)).setLow _ _ (by simp; omega)).setLow _ _ (by simp; omega)).mono (by omega)
    · exact (((B.out.setCell (p := ⟨w2.heap.size, 2, none⟩) (by simp; omega) _).setCell (p := ⟨w.heap.size + 1, 0, none⟩) (by simp) _).setCell (p := ⟨w.heap.size + 1, 1, none⟩) (by simp) _).setCell (p := ⟨w.heap.size + 1, 2, none⟩) (by simp) _
end Go.Proofs.Ytddeeejfmodgfaa
