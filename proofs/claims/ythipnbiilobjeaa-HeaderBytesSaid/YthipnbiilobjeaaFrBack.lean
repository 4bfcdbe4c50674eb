/- Frame: FrameBack walked. -/
import Derived.Test.YthipnbiilobjeaaFr15
namespace Go.Proofs.Ythipnbiilobjeaa
open Go.RowKit

theorem write_size {form : List UInt8} {l : List Fd} (h : (writeF form l).2 = 0) : (writeF form l).1.length ≤ 4000 := by
  unfold writeF at h ⊢
  split at h
  · cases h
  · split at h
    · split at h
      · cases h
      · rename_i x hx
        obtain ⟨_, h2, h3, _⟩ := enc_ok h
        simp only [*, if_true]
    · cases h

theorem read_ok {form s : List UInt8} {m : List Fd} (h : readF form s = (m, 0)) : fsOk m := by
  unfold readF at h
  split at h
  · cases h
  · split at h
    · rename_i h1
      injection h with _ h
      exact absurd h h1
    · split at h
      · cases h
      · rename_i hx
        split at h
        · injection h with h _
          subst h
          exact fieldsT_ok hx
        · cases h

set_option maxRecDepth 100000 in
set_option maxHeartbeats 4000000 in
theorem frameBack_walk (w : World) (f : ByteArray) (hf : f.size ≤ maxLen) (v : Value) (l : List Fd) (hl : FieldsRep w v l) (s : ByteArray) (hs : s.size ≤ maxLen) :
    Calls Try.prog 3 #[.string f, v, .string s] w fun e w' => e = .returned (.bool true) ∧ Below w.heap.size w w' := by
  unfold maxLen at hf hs
  obtain ⟨hrow, hok⟩ := hl
  obtain ⟨p, cap, rfl, s1, s2⟩ := RowT.shape hrow
  have HROW := Lib.hid (fun W (hb : Below w.heap.size w W) => (RowT.below hrow hb (Nat.le_refl _) : RowT encFd (fun _ => True) W (.slice p l.length cap) l))
  have HOK := Lib.hid hok
  obtain ⟨mf, m1, m2, m3⟩ := minIs_ex 60 (by omega) f.size
  have m4 : min (f.size : Int) 60 = mf := by rw [← m1]; split <;> omega
  obtain ⟨ms, n1, n2, n3⟩ := minIs_ex 4100 (by omega) s.size
  have n4 : min (s.size : Int) 4100 = ms := by rw [← n1]; split <;> omega
  have zF : (f.extract 0 mf).size ≤ 1000 := by rw [ByteArray.size_extract]; omega
  have zT : (s.extract 0 ms).size ≤ 4100 := by rw [ByteArray.size_extract]; omega
  clear m1 n1 hrow hok
  generalize hF : f.extract 0 mf = F at *
  generalize hT : s.extract 0 ms = T at *
  have HB := Lib.hid (Below.refl w.heap.size w)
  have KM := Lib.hid (fun W h => many_anyF (.slice p l.length cap) l W (HROW.out W h))
  have KW := Lib.hid (fun W h => fwrite_any F (.slice p l.length cap) l W zF HOK.out (HROW.out W h))
  have KA := Lib.hid (fun W => falive_any W)
  have KR : Hid ((writeF (bl F) l).2 = 0 → ∀ W, Calls Try.prog 13 #[.string F, .string (mkS (writeF (bl F) l).1)] W (FReadPost (l, 0) W)) := Lib.hid (fun h0 W => by
    have hsz := write_size h0
    have e : writeF (bl F) l = ((writeF (bl F) l).1, 0) := by rw [← h0]
    have := fread_any F (mkS (writeF (bl F) l).1) W zF (by rw [mkS_size]; omega)
    rw [bl_mk, read_written e HOK.out] at this
    exact this)
  have KL := Lib.hid (fun W v' (hb : Below w.heap.size w W) (h : RowT encFd (fun _ => True) W v' l) => likeF_any (counts l + 1) l (by omega) _ v' W (HROW.out W hb) h)
  have KR2 := Lib.hid (fun W => fread_any F T W zF zT)
  have hRB := @read_bad (bl F) (bl T)
  have KW2 : Hid (∀ m, readF (bl F) (bl T) = (m, 0) → ∀ W v, RowT encFd (fun _ => True) W v m → Calls Try.prog 12 #[.string F, v] W fun e w' => e = .returned (.tuple #[.string T, .int .i64 0]) ∧ Below W.heap.size W w') := Lib.hid (fun m hm W v h => by
    have hk : fsOk m := read_ok hm
    have := fwrite_any F v m W zF hk h
    rw [written_read hm, mkS_bl] at this
    exact this)
  generalize writeF (bl F) l = wr at *
  generalize readF (bl F) (bl T) = r at *
  obtain ⟨wb, we⟩ := wr
  obtain ⟨m, e2⟩ := r
  simp only at KW KR hRB
  have HRB := Lib.hid hRB
  clear hRB
  go_enter Try.func3, Try.ntmps3
  go_upto_region 1 with (fail)
  (refine region_later mix ?hB ?_; case hB => kernel_rfl); (repeat (first | go_big_quiet_step ((fail)) | quiet_step ((fail)))); (refine wpQuiet_nil ?_; rintro _ ⟨u, rfl⟩)
  have HB1 := Lib.hid u.below
  clear hF hT HB
  generalize u.w = W at *
  go_upto_if 27 with (go_at_call 11; refine (KM.out _ HB1.out).mono ?_; rintro e w2 ⟨n, rfl, hb⟩; have HB2 := Lib.hid (HB1.out.trans (hb.mono HB1.out.size)); clear hb)
  go_cut [6] (fun t wr => t = .bool false ∧ Hid (Below w.heap.size w wr))
  case first =>
    by_cases hn : n ≤ 1000
    · by_cases hw : we = 0
      · subst hw
        have KR1 := Lib.hid (KR.out rfl)
        clear KR
        go_wp2_with (first
          | (go_at_call 12; refine (KW.out _ HB2.out).mono ?_; rintro e w3 ⟨rfl, hb⟩; have HB3 := Lib.hid (HB2.out.trans (hb.mono HB2.out.size)); clear hb)
          | (go_at_call 13; refine (KR1.out _).mono ?_; rintro e w4 ⟨p4, n4, c4, rfl, hrow, hb⟩; have HR4 := Lib.hid hrow; have HB4 := Lib.hid (HB3.out.trans (hb.mono HB3.out.size)); clear hb hrow)
          | (go_at_call 14; refine (KL.out _ _ HB4.out (HR4.out.weaken (fun _ _ => trivial))).mono ?_; rintro e w5 ⟨rfl, hb⟩; have HB5 := Lib.hid (HB4.out.trans (hb.mono HB4.out.size)); clear hb))
        go_meet
        case rel => exact ⟨rfl, HB5⟩
      · have q1 : (we == 0) = false := by simp [hw]
        clear hw
        go_wp2_with (go_at_call 12; refine (KW.out _ HB2.out).mono ?_; rintro e w3 ⟨rfl, hb⟩; have HB3 := Lib.hid (HB2.out.trans (hb.mono HB2.out.size)); clear hb)
        go_meet
        case rel => exact ⟨rfl, HB3⟩
    · go_wp2
      go_meet
      case rel => exact ⟨rfl, HB2⟩
  case rest =>
  clear HB2 HB1
  obtain ⟨rfl, hb2⟩ := hcut
  have HB2 := Lib.hid hb2.out
  clear hb2 KR KW KL KM
  by_cases he : e2 = 0
  · subst he
    have KW3 := Lib.hid (KW2.out m rfl)
    clear KW2 HRB
    go_wp2_with (first
      | (go_at_call 13; refine (KR2.out _).mono ?_; rintro e w4 ⟨p4, n4, c4, rfl, hrow, hb⟩; have HR4 := Lib.hid hrow; have HB4 := Lib.hid (HB2.out.trans (hb.mono HB2.out.size)); clear hb hrow)
      | (go_at_call 12; refine (KW3.out _ _ (HR4.out.weaken (fun _ _ => trivial))).mono ?_; rintro e w5 ⟨rfl, hb⟩; have HB5 := Lib.hid (HB4.out.trans (hb.mono HB4.out.size)); clear hb)
      | (go_at_call 15; refine (KA.out _).mono ?_; rintro e w6 ⟨rfl, hb⟩; have HB6 := Lib.hid (HB5.out.trans (hb.mono HB5.out.size)); clear hb))
    go_ret
    exact ⟨rfl, HB6.out⟩
  · have q1 : (e2 != 0) = true := by simp [he]
    obtain rfl := HRB.out he
    clear he KW2 HRB
    go_wp2_with (first
      | (go_at_call 13; refine (KR2.out _).mono ?_; rintro e w4 ⟨p4, n4, c4, rfl, hrow, hb⟩; obtain ⟨h0, -, -⟩ := RowT.sane hrow; simp only [List.length_nil] at h0; subst h0; have HB4 := Lib.hid (HB2.out.trans (hb.mono HB2.out.size)); clear hb hrow)
      | (go_at_call 15; refine (KA.out _).mono ?_; rintro e w6 ⟨rfl, hb⟩; have HB6 := Lib.hid (HB4.out.trans (hb.mono HB4.out.size)); clear hb))
    go_ret
    exact ⟨rfl, HB6.out⟩
end Go.Proofs.Ythipnbiilobjeaa
