/- CrcBack: the walk. -/
import Derived.Test.YtddeeejfmodgfaaCrc6
import Derived.Test.YtddeeejfmodgfaaRep2
namespace Go.Proofs.Ytddeeejfmodgfaa
open Go.RowKit

/-- The records among some texts, each cut. -/
def recsOf (ss : List ByteArray) : List (List UInt8) := (ss.map fun s => (bl s).take 300).filter fun l => decide (1 ≤ l.length)
def framesOf (l : List (List UInt8)) : List UInt8 := (l.map frameL).flatten

theorem recsOf_len (ss : List ByteArray) : ∀ r ∈ recsOf ss, 1 ≤ r.length ∧ r.length ≤ 4000 := by
  intro r hr
  simp only [recsOf, List.mem_filter, List.mem_map, decide_eq_true_eq] at hr
  obtain ⟨⟨s, _, rfl⟩, h⟩ := hr
  rw [List.length_take] at *
  omega

theorem recsOf_count (ss : List ByteArray) : (recsOf ss).length ≤ ss.length := by
  have := List.length_filter_le (fun l : List UInt8 => decide (1 ≤ l.length)) (ss.map fun s => (bl s).take 300)
  simpa [recsOf] using this

theorem frames_len : ∀ (l : List (List UInt8)), (∀ r ∈ l, r.length ≤ 300) → (framesOf l).length ≤ 306 * l.length
  | [], _ => by simp [framesOf]
  | r :: l, h => by
    have h1 := h r (List.mem_cons_self ..)
    have h2 := frames_len l (fun x hx => h x (List.mem_cons_of_mem _ hx))
    unfold framesOf at *
    rw [List.map_cons, List.flatten_cons, List.length_append, frameL_length, List.length_cons]
    omega

theorem framesOf_small (ss : List ByteArray) : (framesOf (recsOf ss)).length ≤ 306 * ss.length := by
  have h := frames_len (recsOf ss) (fun r hr => by
    simp only [recsOf, List.mem_filter, List.mem_map, decide_eq_true_eq] at hr
    obtain ⟨⟨s, _, rfl⟩, h⟩ := hr
    rw [List.length_take]
    omega)
  have := recsOf_count ss
  omega

theorem recsOf_snoc (ss : List ByteArray) (s : ByteArray) : recsOf (ss ++ [s]) = recsOf ss ++ (if 1 ≤ ((bl s).take 300).length then [(bl s).take 300] else []) := by
  unfold recsOf
  rw [List.map_append, List.filter_append]
  congr 1
  by_cases h : 1 ≤ ((bl s).take 300).length
  · rw [if_pos h, List.map_cons, List.map_nil, List.filter_cons, if_pos (decide_eq_true h)]; rfl
  · rw [if_neg h, List.map_cons, List.map_nil, List.filter_cons, if_neg (by simpa using h)]; rfl

theorem framesOf_snoc (l : List (List UInt8)) (r : List UInt8) : framesOf (l ++ [r]) = framesOf l ++ frameL r := by simp [framesOf]

theorem take_min {top n : Nat} (s : ByteArray) (h : MinIs top s.size n) : bl (s.extract 0 n) = (bl s).take top := by
  obtain ⟨h1, h2, h3⟩ := h
  rw [bl_extract, List.drop_zero]
  by_cases h : (top : Int) < (s.size : Int)
  · rw [if_pos h] at h1
    have : n = top := by omega
    rw [this]
  · rw [if_neg h] at h1
    have : n = s.size := by omega
    rw [this, List.take_of_length_le (by rw [bl_length]; omega), List.take_of_length_le (by rw [bl_length]; omega)]

theorem list_take_snoc {l : List ByteArray} {k : Nat} (h : k < l.length) : l.take (k + 1) = l.take k ++ [l.getD k ByteArray.empty] := by
  rw [List.take_add_one, List.getElem?_eq_getElem h, List.getD, List.getElem?_eq_getElem h]
  rfl

set_option maxRecDepth 100000 in
set_option maxHeartbeats 4000000 in
theorem crcBack_row (a : Addr) (len cap : Nat) (ss : List ByteArray) (more : ByteArray) (cut : Int) (w : World) (h1 : len ≤ cap) (h2 : cap ≤ maxLen) (h3 : ss.length = len)
    (hc : ∀ i, i < len → w.cell? (a.add i) = some (.string (ss.getD i ByteArray.empty))) (hss : ∀ i, (ss.getD i ByteArray.empty).size ≤ maxLen) (hm : more.size ≤ 9223372036854775807) (hcut : -9223372036854775808 ≤ cut ∧ cut ≤ 9223372036854775807) :
    Calls Try.prog 9 #[.slice (some a) len cap, .string more, .int .i64 cut] w fun e w' => e = .returned (.bool true) ∧ Below w.heap.size w w' := by
  obtain ⟨m, m1, m2, m3⟩ := minIs_ex 12 (by omega) len
  unfold maxLen at *
  have HC := Lib.hid hc
  have HS := Lib.hid hss
  have H3 := Lib.hid h3
  clear hc hss h3
  go_enter Try.func9, Try.ntmps9
  go_wp2
  go_loopw [7, 8, 26] (fun t v i wr => ∃ k : Nat, k ≤ m ∧ i = .int .i64 k ∧ t = .string (mkS (framesOf (recsOf (ss.take k)))) ∧ OwnS wr w.heap.size v ((recsOf (ss.take k)).map mkS) ∧ Below w.heap.size w wr) (fun _ _ i _ => m - (intOf i).toNat)
  case atStart => exact ⟨0, Nat.zero_le _, rfl, rfl, OwnS.nil _ _, Below.refl _ _⟩
  case round =>
    obtain ⟨k, hk, rfl, rfl, hown, hbl⟩ := hrel
    by_cases hlt : k < m
    · have hl : k < len := by omega
      obtain ⟨x, hx⟩ : ∃ x, ss.getD k ByteArray.empty = x := ⟨_, rfl⟩
      have c1 : wr.cell? (a.add k) = some (.string x) := by
        rw [hbl.cell (block_lt_of_cell (HC.out k hl)), HC.out k hl, hx]
      have xs : x.size ≤ 9223372036854775807 := by have := HS.out k; rw [hx] at this; exact this
      obtain ⟨n, hn⟩ := minIs_ex 300 (by omega) x.size
      have hsn := recsOf_snoc (ss.take k) x
      rw [← hx, ← list_take_snoc (by rw [H3.out]; exact hl), hx] at hsn
      have hft := take_min (top := 300) x hn
      rw [← hft, bl_length] at hsn
      obtain ⟨n1, n2, n3⟩ := hn
      have zT : (x.extract 0 n).size = n := by rw [ByteArray.size_extract]; omega
      have hsm := framesOf_small (ss.take k)
      have htk : (ss.take k).length ≤ k := List.length_take_le _ _
      have hcnt := recsOf_count (ss.take k)
      have zA : (mkS (framesOf (recsOf (ss.take k)))).size ≤ 4000 := by rw [mk_size]; omega
      have KI := fun w => isRec_any (x.extract 0 n) w (by omega)
      have HO := Lib.hid hown
      have HL := Lib.hid hbl
      have hbz := hbl.size
      clear hown hbl hx hft hsm htk
      by_cases hr : 1 ≤ n
      · have KF := Lib.hid (fun w => crcFrame_yes (x.extract 0 n) w (by omega) (by omega))
        rw [zT, if_pos hr] at hsn
        have e : decide (1 ≤ (x.extract 0 n).size ∧ (x.extract 0 n).size ≤ 4000) = true := by rw [zT]; simp; omega
        rw [e] at KI
        have KI := Lib.hid KI
        have zF : (mkS (frameL (bl (x.extract 0 n)))).size ≤ 4006 := by rw [mk_size, frameL_length, bl_length]; omega
        have hft : framesOf (recsOf (ss.take (k + 1))) = framesOf (recsOf (ss.take k)) ++ frameL (bl (x.extract 0 n)) := by rw [hsn, framesOf_snoc]
        have HFT := Lib.hid hft
        have HSN := Lib.hid hsn
        have HCNT : Hid ((recsOf (ss.take k)).length ≤ 12) := Lib.hid (by rw [List.length_take] at hcnt; omega)
        clear e hsn hft hcnt zT
        generalize frameL (bl (x.extract 0 n)) = F at *
        generalize recsOf (ss.take k) = RS at *
        go_wp2_with fail
        refine (KF.out _).mono ?_
        rintro e w1 ⟨rfl, b1⟩
        have HO1 := Lib.hid (HO.out.below b1 (Nat.le_refl _))
        have HL1 := Lib.hid (HL.out.trans (b1.mono hbz))
        have z1 : w.heap.size ≤ w1.heap.size := Nat.le_trans hbz b1.size
        clear b1
        go_wp2_with fail
        refine (KI.out _).mono ?_
        rintro e w2 ⟨rfl, rfl⟩
        go_wp2_with (first
          | (at_builtin; refine wpList_append_str rfl _ _ rfl w.heap.size _ (RS.map mkS) rfl (HO1.out.alloc _) ⟨w1.heap.size, 0, none⟩ 1 1 [x.extract 0 n] rfl rfl (one_str_new (w := w1)) (by rw [List.length_map]; have := HCNT.out; omega) (by simp; omega) ?_; intro v' w3 hown3 hb3 hz3))
        go_roundw
        case rel =>
          refine ⟨k + 1, by omega, by go_num, ?_, ?_, hb3 _ (HL1.out.alloc z1 _)⟩
          · rw [HFT.out, mk_append]
          · rw [HSN.out, List.map_append]
            exact hown3
        case measure => simp [intOf]; omega
      · have KF := Lib.hid (fun w => crcFrame_no (x.extract 0 n) w (by omega) (by omega))
        rw [zT, if_neg hr, List.append_nil] at hsn
        have e : decide (1 ≤ (x.extract 0 n).size ∧ (x.extract 0 n).size ≤ 4000) = false := by rw [zT]; simp; omega
        rw [e] at KI
        have KI := Lib.hid KI
        have HSN := Lib.hid hsn
        clear e hsn hcnt zT hr
        go_wp2_with fail
        refine (KF.out _).mono ?_
        rintro e w1 ⟨rfl, b1⟩
        have HO1 := Lib.hid (HO.out.below b1 (Nat.le_refl _))
        have HL1 := Lib.hid (HL.out.trans (b1.mono hbz))
        clear b1
        go_wp2_with fail
        refine (KI.out _).mono ?_
        rintro e w2 ⟨rfl, rfl⟩
        go_wp2_with fail
        go_roundw
        case rel =>
          refine ⟨k + 1, by omega, by go_num, ?_, ?_, HL1.out⟩
          · rw [HSN.out]
          · rw [HSN.out]
            exact HO1.out
        case measure => simp [intOf]; omega
    · obtain rfl : k = m := by omega
      have hsm := framesOf_small (ss.take k)
      have htk : (ss.take k).length ≤ k := List.length_take_le _ _
      have zA : (mkS (framesOf (recsOf (ss.take k)))).size ≤ 4000 := by rw [mk_size]; omega
      have hrl := recsOf_len (ss.take k)
      have hbz := hbl.size
      have HO := Lib.hid hown
      have HL := Lib.hid hbl
      clear hown hbl hsm htk
      have hsc : ∀ t, oneL t = none → scanL (framesOf (recsOf (ss.take k)) ++ t) = (recsOf (ss.take k), (framesOf (recsOf (ss.take k))).length) := fun t ht => scanL_frames (recsOf (ss.take k)) t hrl ht
      generalize recsOf (ss.take k) = RS at *
      have hbA : framesOf RS = bl (mkS (framesOf RS)) := by rw [bl_mk]
      rw [hbA] at hsc
      generalize mkS (framesOf RS) = A at *
      have K1 := fun w => crcScan_any A w (by omega)
      have e1 := hsc [] (oneL_none_short (by decide))
      rw [List.append_nil, bl_length] at e1
      unfold Scanned at K1
      rw [e1] at K1
      simp only at K1
      have K1 := Lib.hid K1
      obtain ⟨hc0, hc1⟩ := hcut
      obtain ⟨n, hn⟩ := minIs_ex 300 (by omega) more.size
      obtain ⟨n1, n2, n3⟩ := hn
      have zT : (more.extract 0 n).size = n := by rw [ByteArray.size_extract]; omega
      have HSC := Lib.hid hsc
      clear hsc hbA e1
      by_cases hr : 1 ≤ n
      · have KF := fun w => crcFrame_yes (more.extract 0 n) w (by omega) (by omega)
        have zF : (mkS (frameL (bl (more.extract 0 n)))).size = n + 6 := by rw [mk_size, frameL_length, bl_length, zT]
        have hpart : ∀ c, c < n + 6 → oneL (bl ((mkS (frameL (bl (more.extract 0 n)))).extract 0 c)) = none := fun c hc => by
          rw [bl_extract, bl_mk, List.drop_zero]
          exact oneL_part _ _ (by rw [bl_length]; omega) (by rw [bl_length]; omega)
        generalize mkS (frameL (bl (more.extract 0 n))) = F at *
        have KF := Lib.hid KF
        have zF2 : (F.size : Int) = (n : Int) + 6 := by rw [zF]; rfl
        have zF3 : 7 ≤ F.size := by omega
        have zF4 : F.size ≤ 306 := by omega
        have HP : Hid (∀ c, c < F.size → oneL (bl (F.extract 0 c)) = none) := Lib.hid (by rw [zF]; exact hpart)
        clear zF zF2 hpart zT hr
        go_wp2_with fail
        refine (K1.out _).mono ?_
        rintro e w1 ⟨v1, rfl, o1, b1⟩
        have O0 := Lib.hid (HO.out.row.below b1 (Nat.le_refl _))
        have O1 := Lib.hid o1.row
        have HL1 := Lib.hid (HL.out.trans (b1.mono hbz))
        have hbz1 : w.heap.size ≤ w1.heap.size := Nat.le_trans hbz b1.size
        clear o1 b1 HO HL
        go_wp2_with fail
        refine (same_yes v1 _ (RS.map mkS) _ O1.out O0.out).mono ?_
        rintro e w2 ⟨rfl, b2⟩
        have O0 := Lib.hid (O0.out.below b2 (Nat.le_refl _))
        have HL2 := Lib.hid (HL1.out.trans (b2.mono hbz1))
        have hbz2 : w.heap.size ≤ w2.heap.size := Nat.le_trans hbz1 b2.size
        clear b2 O1 HL1
        go_wp2_with fail
        refine (KF.out _).mono ?_
        rintro e w3 ⟨rfl, b3⟩
        have O0 := Lib.hid (O0.out.below b3 (Nat.le_refl _))
        have HL3 := Lib.hid (HL2.out.trans (b3.mono hbz2))
        have hbz3 : w.heap.size ≤ w3.heap.size := Nat.le_trans hbz2 b3.size
        clear b3 HL2
        have K3 : Hid (∀ c, c < F.size → ∀ w, Calls Try.prog 29 #[.string (A ++ F.extract 0 c)] w fun e w' => ∃ v, e = .returned (.tuple #[v, .int .i64 (A.size : Int)]) ∧ OwnS w' w.heap.size v (RS.map mkS) ∧ Below w.heap.size w w') := Lib.hid (fun c hc w => by
          have := crcScan_any (A ++ F.extract 0 c) w (by rw [ByteArray.size_append, ByteArray.size_extract]; omega)
          unfold Scanned at this
          rw [bl_append, HSC.out _ (HP.out c hc), bl_length] at this
          exact this)
        clear HSC HP
        go_wp2_with fail
        all_goals
          first
            | (with_reducible refine (K1.out _).mono ?_)
            | (with_reducible refine (K3.out _ (by omega) _).mono ?_)
          rintro e w4 ⟨v4, rfl, o4, b4⟩
          have O0 := Lib.hid (O0.out.below b4 (Nat.le_refl _))
          have O1 := Lib.hid o4.row
          have HL4 := Lib.hid (HL3.out.trans (b4.mono hbz3))
          have hbz4 : w.heap.size ≤ w4.heap.size := Nat.le_trans hbz3 b4.size
          clear o4 b4 HL3
          go_wp2_with fail
          refine (alive05 _).mono ?_
          rintro e w5 ⟨rfl, b5⟩
          have O0 := Lib.hid (O0.out.below b5 (Nat.le_refl _))
          have O1 := Lib.hid (O1.out.below b5 (Nat.le_refl _))
          have HL5 := Lib.hid (HL4.out.trans (b5.mono hbz4))
          have hbz5 : w.heap.size ≤ w5.heap.size := Nat.le_trans hbz4 b5.size
          clear b5 HL4
          go_wp2_with fail
          refine (same_yes v4 _ (RS.map mkS) _ O1.out O0.out).mono ?_
          rintro e w6 ⟨rfl, b6⟩
          have HL6 := Lib.hid (HL5.out.trans (b6.mono hbz5))
          clear b6 HL5
          go_wp2_with fail
          go_ret
          exact ⟨by simp, HL6.out⟩
      · have KF := Lib.hid (fun w => crcFrame_no (more.extract 0 n) w (by omega) (by omega))
        clear zT hr
        go_wp2_with fail
        refine (K1.out _).mono ?_
        rintro e w1 ⟨v1, rfl, o1, b1⟩
        have O0 := Lib.hid (HO.out.row.below b1 (Nat.le_refl _))
        have O1 := Lib.hid o1.row
        have HL1 := Lib.hid (HL.out.trans (b1.mono hbz))
        have hbz1 : w.heap.size ≤ w1.heap.size := Nat.le_trans hbz b1.size
        clear o1 b1 HO HL
        go_wp2_with fail
        refine (same_yes v1 _ (RS.map mkS) _ O1.out O0.out).mono ?_
        rintro e w2 ⟨rfl, b2⟩
        have HL2 := Lib.hid (HL1.out.trans (b2.mono hbz1))
        have hbz2 : w.heap.size ≤ w2.heap.size := Nat.le_trans hbz1 b2.size
        clear b2 O1 O0 HL1
        go_wp2_with fail
        refine (KF.out _).mono ?_
        rintro e w3 ⟨rfl, b3⟩
        have HL3 := Lib.hid (HL2.out.trans (b3.mono hbz2))
        have hbz3 : w.heap.size ≤ w3.heap.size := Nat.le_trans hbz2 b3.size
        clear b3 HL2
        go_wp2_with fail
        refine (alive05 _).mono ?_
        rintro e w5 ⟨rfl, b5⟩
        go_wp2_with fail
        go_ret
        exact ⟨rfl, HL3.out.trans (b5.mono hbz3)⟩
set_option maxRecDepth 100000 in
set_option maxHeartbeats 4000000 in
theorem crcBack_nil (more : ByteArray) (cut : Int) (w : World) (hm : more.size ≤ 9223372036854775807) (hcut : -9223372036854775808 ≤ cut ∧ cut ≤ 9223372036854775807) :
    Calls Try.prog 9 #[.slice none 0 0, .string more, .int .i64 cut] w fun e w' => e = .returned (.bool true) ∧ Below w.heap.size w w' := by
  go_enter Try.func9, Try.ntmps9
  go_wp2
  go_loopw [7, 8, 26] (fun t v i wr => i = .int .i64 0 ∧ t = .string (mkS (framesOf (recsOf []))) ∧ OwnS wr w.heap.size v ((recsOf []).map mkS) ∧ Below w.heap.size w wr) (fun _ _ _ _ => 0)
  case atStart => exact ⟨rfl, rfl, OwnS.nil _ _, Below.refl _ _⟩
  case round =>
    obtain ⟨rfl, rfl, hown, hbl⟩ := hrel
    have hsm := framesOf_small ([] : List ByteArray)
    have zA : (mkS (framesOf (recsOf ([] : List ByteArray)))).size ≤ 4000 := by rw [mk_size]; simp only [List.length_nil] at hsm; omega
    have hrl := recsOf_len ([] : List ByteArray)
    have hbz := hbl.size
    have HO := Lib.hid hown
    have HL := Lib.hid hbl
    clear hown hbl hsm
    have hsc : ∀ t, oneL t = none → scanL (framesOf (recsOf ([] : List ByteArray)) ++ t) = (recsOf ([] : List ByteArray), (framesOf (recsOf ([] : List ByteArray))).length) := fun t ht => scanL_frames (recsOf ([] : List ByteArray)) t hrl ht
    generalize recsOf ([] : List ByteArray) = RS at *
    have hbA : framesOf RS = bl (mkS (framesOf RS)) := by rw [bl_mk]
    rw [hbA] at hsc
    generalize mkS (framesOf RS) = A at *
    have K1 := fun w => crcScan_any A w (by omega)
    have e1 := hsc [] (oneL_none_short (by decide))
    rw [List.append_nil, bl_length] at e1
    unfold Scanned at K1
    rw [e1] at K1
    simp only at K1
    have K1 := Lib.hid K1
    obtain ⟨hc0, hc1⟩ := hcut
    obtain ⟨n, hn⟩ := minIs_ex 300 (by omega) more.size
    obtain ⟨n1, n2, n3⟩ := hn
    have zT : (more.extract 0 n).size = n := by rw [ByteArray.size_extract]; omega
    have HSC := Lib.hid hsc
    clear hsc hbA e1
    by_cases hr : 1 ≤ n
    · have KF := fun w => crcFrame_yes (more.extract 0 n) w (by omega) (by omega)
      have zF : (mkS (frameL (bl (more.extract 0 n)))).size = n + 6 := by rw [mk_size, frameL_length, bl_length, zT]
      have hpart : ∀ c, c < n + 6 → oneL (bl ((mkS (frameL (bl (more.extract 0 n)))).extract 0 c)) = none := fun c hc => by
        rw [bl_extract, bl_mk, List.drop_zero]
        exact oneL_part _ _ (by rw [bl_length]; omega) (by rw [bl_length]; omega)
      generalize mkS (frameL (bl (more.extract 0 n))) = F at *
      have KF := Lib.hid KF
      have zF2 : (F.size : Int) = (n : Int) + 6 := by rw [zF]; rfl
      have zF3 : 7 ≤ F.size := by omega
      have zF4 : F.size ≤ 306 := by omega
      have HP : Hid (∀ c, c < F.size → oneL (bl (F.extract 0 c)) = none) := Lib.hid (by rw [zF]; exact hpart)
      clear zF zF2 hpart zT hr
      go_wp2_with fail
      refine (K1.out _).mono ?_
      rintro e w1 ⟨v1, rfl, o1, b1⟩
      have O0 := Lib.hid (HO.out.row.below b1 (Nat.le_refl _))
      have O1 := Lib.hid o1.row
      have HL1 := Lib.hid (HL.out.trans (b1.mono hbz))
      have hbz1 : w.heap.size ≤ w1.heap.size := Nat.le_trans hbz b1.size
      clear o1 b1 HO HL
      go_wp2_with fail
      refine (same_yes v1 _ (RS.map mkS) _ O1.out O0.out).mono ?_
      rintro e w2 ⟨rfl, b2⟩
      have O0 := Lib.hid (O0.out.below b2 (Nat.le_refl _))
      have HL2 := Lib.hid (HL1.out.trans (b2.mono hbz1))
      have hbz2 : w.heap.size ≤ w2.heap.size := Nat.le_trans hbz1 b2.size
      clear b2 O1 HL1
      go_wp2_with fail
      refine (KF.out _).mono ?_
      rintro e w3 ⟨rfl, b3⟩
      have O0 := Lib.hid (O0.out.below b3 (Nat.le_refl _))
      have HL3 := Lib.hid (HL2.out.trans (b3.mono hbz2))
      have hbz3 : w.heap.size ≤ w3.heap.size := Nat.le_trans hbz2 b3.size
      clear b3 HL2
      have K3 : Hid (∀ c, c < F.size → ∀ w, Calls Try.prog 29 #[.string (A ++ F.extract 0 c)] w fun e w' => ∃ v, e = .returned (.tuple #[v, .int .i64 (A.size : Int)]) ∧ OwnS w' w.heap.size v (RS.map mkS) ∧ Below w.heap.size w w') := Lib.hid (fun c hc w => by
        have := crcScan_any (A ++ F.extract 0 c) w (by rw [ByteArray.size_append, ByteArray.size_extract]; omega)
        unfold Scanned at this
        rw [bl_append, HSC.out _ (HP.out c hc), bl_length] at this
        exact this)
      clear HSC HP
      go_wp2_with fail
      all_goals
        first
          | (with_reducible refine (K1.out _).mono ?_)
          | (with_reducible refine (K3.out _ (by omega) _).mono ?_)
        rintro e w4 ⟨v4, rfl, o4, b4⟩
        have O0 := Lib.hid (O0.out.below b4 (Nat.le_refl _))
        have O1 := Lib.hid o4.row
        have HL4 := Lib.hid (HL3.out.trans (b4.mono hbz3))
        have hbz4 : w.heap.size ≤ w4.heap.size := Nat.le_trans hbz3 b4.size
        clear o4 b4 HL3
        go_wp2_with fail
        refine (alive05 _).mono ?_
        rintro e w5 ⟨rfl, b5⟩
        have O0 := Lib.hid (O0.out.below b5 (Nat.le_refl _))
        have O1 := Lib.hid (O1.out.below b5 (Nat.le_refl _))
        have HL5 := Lib.hid (HL4.out.trans (b5.mono hbz4))
        have hbz5 : w.heap.size ≤ w5.heap.size := Nat.le_trans hbz4 b5.size
        clear b5 HL4
        go_wp2_with fail
        refine (same_yes v4 _ (RS.map mkS) _ O1.out O0.out).mono ?_
        rintro e w6 ⟨rfl, b6⟩
        have HL6 := Lib.hid (HL5.out.trans (b6.mono hbz5))
        clear b6 HL5
        go_wp2_with fail
        go_ret
        exact ⟨by simp, HL6.out⟩
    · have KF := Lib.hid (fun w => crcFrame_no (more.extract 0 n) w (by omega) (by omega))
      clear zT hr
      go_wp2_with fail
      refine (K1.out _).mono ?_
      rintro e w1 ⟨v1, rfl, o1, b1⟩
      have O0 := Lib.hid (HO.out.row.below b1 (Nat.le_refl _))
      have O1 := Lib.hid o1.row
      have HL1 := Lib.hid (HL.out.trans (b1.mono hbz))
      have hbz1 : w.heap.size ≤ w1.heap.size := Nat.le_trans hbz b1.size
      clear o1 b1 HO HL
      go_wp2_with fail
      refine (same_yes v1 _ (RS.map mkS) _ O1.out O0.out).mono ?_
      rintro e w2 ⟨rfl, b2⟩
      have HL2 := Lib.hid (HL1.out.trans (b2.mono hbz1))
      have hbz2 : w.heap.size ≤ w2.heap.size := Nat.le_trans hbz1 b2.size
      clear b2 O1 O0 HL1
      go_wp2_with fail
      refine (KF.out _).mono ?_
      rintro e w3 ⟨rfl, b3⟩
      have HL3 := Lib.hid (HL2.out.trans (b3.mono hbz2))
      have hbz3 : w.heap.size ≤ w3.heap.size := Nat.le_trans hbz2 b3.size
      clear b3 HL2
      go_wp2_with fail
      refine (alive05 _).mono ?_
      rintro e w5 ⟨rfl, b5⟩
      go_wp2_with fail
      go_ret
      exact ⟨rfl, HL3.out.trans (b5.mono hbz3)⟩

theorem crcBack_walk (W : World) (l : Value) (ss : List ByteArray) (hl : StrRowZ W l ss) (more : ByteArray) (hm : more.size ≤ maxLen) (cut : Int) (hcut : (Lit.int .i64 cut).wf = true) :
    Calls Try.prog 9 #[l, .string more, .int .i64 cut] W fun e W' => e = .returned (.bool true) ∧ Below W.heap.size W W' := by
  unfold maxLen at hm
  rcases hl.1 with ⟨rfl, rfl⟩ | ⟨a, len, cap, rfl, h1, h2, h3, hc⟩
  · exact crcBack_nil more cut W hm (i64_bd hcut)
  · exact crcBack_row a len cap ss more cut W h1 h2 h3 hc hl.2 hm (i64_bd hcut)
end Go.Proofs.Ytddeeejfmodgfaa
