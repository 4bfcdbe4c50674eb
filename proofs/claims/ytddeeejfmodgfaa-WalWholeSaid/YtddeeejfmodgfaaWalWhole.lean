/- WalWhole: the walk. -/
import Derived.Test.YtddeeejfmodgfaaWal7
import Derived.Test.YtddeeejfmodgfaaWalP3
import Derived.Test.YtddeeejfmodgfaaLater
import Derived.Test.YtddeeejfmodgfaaLaterTail
import Derived.Test.YtddeeejfmodgfaaWalRep
import Derived.Deep.DeepCutAuto
import Derived.Deep.CutBlock
import Derived.Deep.SlicePairs
namespace Go.Proofs.Ytddeeejfmodgfaa
open Go.RowKit Go.ChangeShapes Go.WideShapes Go.ChangeAt

/-- A slice of acts: a record each, and whether it is made sure. -/
def ActRow (w : World) (v : Value) (l : List (ByteArray × Bool)) : Prop :=
  (v = .slice none 0 0 ∧ l = []) ∨ ∃ (a : Addr) (len cap : Nat), v = .slice (some a) len cap ∧ len ≤ cap ∧ cap ≤ maxLen ∧ l.length = len ∧
    ∀ i, i < len → w.cell? (a.add (i * 2)) = some (.string (l.getD i (ByteArray.empty, false)).1) ∧ w.cell? (a.add (i * 2 + 1)) = some (.bool (l.getD i (ByteArray.empty, false)).2) ∧ (l.getD i (ByteArray.empty, false)).1.size ≤ maxLen

theorem strRow_shape {w : World} {v : Value} {l : List ByteArray} {n : Nat} (h : StrRow w v l) (hn : l.length = n) : ∃ (p : Option Addr) (cap : Nat), v = .slice p n cap := by
  subst hn
  obtain ⟨p, cap, e, _⟩ := strRow_slice h
  exact ⟨p, cap, e⟩

theorem act_open {H : Type} {enc : TypeId × Value → H} {w : World} {base : Nat} {v : Value} {d : DataW H} {p : List MemPlace} (hv : Value.okWide Try.prog w .any base 63 v) (h : DataW.Trod enc Try.prog w 0 (fun _ => true) true 63 v d p) (_ : ∀ x ∈ p, x.block < w.heap.size) :
    ∃ l, ActRow w v l := by
  obtain ⟨a0, len0, cap0, rfl⟩ := okWide_slice Try.underlying63 hv
  obtain ⟨fuel, hf⟩ := h
  rcases Go.Deep.open_slice_pairs Try.underlying63 Try.underlying65 (by kernel_rfl) rfl rfl (by kernel_rfl) (by kernel_rfl) hf with ⟨hcs, _⟩ | ⟨a, len, cap, m, n, V0, V1, D0, D1, P0, P1, hcs, _, hl, hm, hmm, _, hcell⟩
  · simp [Value.cells] at hcs
    obtain ⟨rfl, rfl, rfl⟩ := hcs
    exact ⟨[], .inl ⟨rfl, rfl⟩⟩
  · simp [Value.cells] at hcs
    obtain ⟨rfl, rfl, rfl⟩ := hcs
    simp at hmm
    refine ⟨(List.range len0).map fun i => ((match V0 i with | .string s => s | _ => ByteArray.empty), (match V1 i with | .bool b => b | _ => false)), .inr ⟨a, len0, cap0, rfl, hl, hm, by simp, fun i hi => ?_⟩⟩
    obtain ⟨h0, h1, t0, t1⟩ := hcell i (by omega)
    obtain ⟨s, e0, _, ws⟩ := DataW.trod_string Try.underlying9 t0
    obtain ⟨b, e1, _⟩ := DataW.trod_bool Try.underlying4 t1
    simp only [List.cons.injEq, and_true] at e0 e1
    have eg : ((List.range len0).map fun i => ((match V0 i with | .string s => s | _ => ByteArray.empty), (match V1 i with | .bool b => b | _ => false))).getD i (ByteArray.empty, false) = (s, b) := by
      rw [List.getD, List.getElem?_map, List.getElem?_range hi]
      simp [e0, e1]
    rw [eg, h0, h1, e0, e1]
    exact ⟨rfl, rfl, ws⟩

/-- What a good log's device is opened as. -/
theorem wopen_log (b : ByteArray) (n : Int) (ss : List ByteArray) (w : World) (h : LogOk b n ss) :
    Calls Try.prog 43 #[dev b n] w fun e w' => ∃ v, e = .returned (.tuple #[logV b b.size v, .int .i64 0]) ∧ OwnS w' w.heap.size v ss ∧ Below w.heap.size w w' := by
  obtain ⟨⟨h1, h2, h3⟩, h4⟩ := h
  have hs := (scan_iff b ss).2 h4
  refine (wopen_yes b n w h1 h2 h3).mono fun e w' ⟨v, he, ho, hb⟩ => ?_
  rw [hs] at he ho
  simp only [map_bl_mk, extract_all] at he ho
  exact ⟨v, he, ho, hb⟩

abbrev actO (r : ByteArray) (s : Bool) : Obj := .cells #[.string r, .bool s] 65

/-- What the loop over acts holds. -/
def ActsAt (k : Nat) (LB : Nat) (w : World) (s8 : Value) (wr : World) : Prop :=
  ∃ (b : ByteArray) (n : Int) (p : Option Addr) (m cap : Nat) (ss : List ByteArray) (s : Nat), s8 = .int .i64 (s : Int) ∧ SureLog b n ss s ∧ ss.length = m ∧ m ≤ k ∧ k ≤ 14 ∧
    RowAt wr LB #[.string b, .int .i64 n, .slice p m cap] 49 ∧ OwnS wr (LB + 1) (.slice p m cap) ss ∧ Below w.heap.size w wr

theorem ActsAt.alloc {k LB : Nat} {w wr : World} {s8 : Value} (h : ActsAt k LB w s8 wr) (o : Obj) : ActsAt k LB w s8 (wr.alloc o) := by
  obtain ⟨b, n, p, m, cap, ss, s, h1, h2, h3, h4, h5, h6, h7, h8⟩ := h
  exact ⟨b, n, p, m, cap, ss, s, h1, h2, h3, h4, h5, h6.alloc _, h7.alloc _, h8.alloc h8.size _⟩

def ActsSome (LB : Nat) (w : World) (s8 : Value) (wr : World) : Prop := ∃ k, ActsAt k LB w s8 wr

set_option maxRecDepth 100000 in
set_option maxHeartbeats 4000000 in
theorem whole_any (po : Option Addr) (len cap : Nat) (acts : List (ByteArray × Bool)) (more : Int) (last : ByteArray) (w : World) (h1 : len ≤ cap) (h2 : cap ≤ 9223372036854775807)
    (hc : ∀ i, i < len → ∃ a, po = some a ∧ w.cell? (a.add (i * 2)) = some (.string (acts.getD i (ByteArray.empty, false)).1) ∧ w.cell? (a.add (i * 2 + 1)) = some (.bool (acts.getD i (ByteArray.empty, false)).2) ∧ (acts.getD i (ByteArray.empty, false)).1.size ≤ 9223372036854775807)
    (hm : -9223372036854775808 ≤ more ∧ more ≤ 9223372036854775807) (hl : last.size ≤ 9223372036854775807) :
    Calls Try.prog 14 #[.slice po len cap, .int .i64 more, .string last] w fun e w' => e = .returned (.bool true) ∧ Below w.heap.size w w' := by
  obtain ⟨hm1, hm2⟩ := hm
  have HC := Lib.hid hc
  clear hc
  have B : Hid (Below w.heap.size w w) := Lib.hid (Below.refl _ _)
  go_enter Try.func14, Try.ntmps14
  go_wp2_with fail
  refine (wnew_any _).mono ?_
  rintro e w1 ⟨rfl, hb⟩
  (replace B := Lib.hid (B.out.trans (hb.mono B.out.size)); clear hb)
  have x0 := B.out.size
  (replace B := Lib.hid (B.out.alloc B.out.size (logO ⟨#[]⟩ 0 (.slice none 0 0))))
  have L : Hid (RowAt (w1.alloc (logO ⟨#[]⟩ 0 (.slice none 0 0))) w1.heap.size #[.string ⟨#[]⟩, .int .i64 0, .slice none 0 0] 49) := Lib.hid (RowAt.new _ _ _)
  go_upto_block 0 with (fail)
  generalize w1.alloc (logO ⟨#[]⟩ 0 (.slice none 0 0)) = W1 at *
  generalize w1.heap.size = LB at *
  go_cut [8] (fun s8 wr => ActsSome LB w s8 wr)
  case first =>
    go_wp2
    go_loopw [8, 31] (fun s8 c wr => ∃ k : Nat, k ≤ len ∧ c = .int .i64 k ∧ ActsAt k LB w s8 wr) (fun _ c _ => len - (intOf c).toNat)
    case atStart => exact ⟨0, Nat.zero_le _, rfl, ⟨#[]⟩, 0, none, 0, 0, [], 0, rfl, SureLog.start, rfl, Nat.le_refl _, by omega, L.out, OwnS.nil _ _, B.out⟩
    case round =>
      obtain ⟨k, hk, rfl, hat⟩ := hrel
      have HAT := Lib.hid hat
      clear hat L B
      by_cases hlt : k < len
      · obtain ⟨b, n, p, m, cap', ss, s, rfl, hsl, hlen, hmk, hk14, hrow, hown, hbl⟩ := HAT.out
        obtain ⟨a, rfl, c0, c1, c2⟩ := HC.out k hlt
        obtain ⟨⟨r0, sb⟩, hact⟩ : ∃ x, acts.getD k (ByteArray.empty, false) = x := ⟨_, rfl⟩
        rw [hact] at c0 c1 c2
        have q0 : wr.cell? (a.add (k * 2)) = some (.string r0) := by rw [hbl.cell (block_lt_of_cell c0)]; exact c0
        have q1 : wr.cell? ⟨(a.add (k * 2)).block, (a.add (k * 2)).off + 1, none⟩ = some (.bool sb) := by
          have e : (⟨(a.add (k * 2)).block, (a.add (k * 2)).off + 1, none⟩ : Addr) = a.add (k * 2 + 1) := by rw [← Go.Deep.add_add]; rfl
          rw [e, hbl.cell (block_lt_of_cell c1)]
          exact c1
        clear c0 c1 hact
        by_cases h14 : k < 14
        · obtain ⟨q, qm1, qm2, qm3⟩ := minIs_ex 200 (by omega) r0.size
          have zR : (r0.extract 0 q).size = q := by rw [ByteArray.size_extract]; omega
          have zb := hsl.size
          have zb2 : b.size ≤ 206 * 14 := by have := Nat.mul_le_mul_left 206 (by omega : ss.length ≤ 14); omega
          have HSL := Lib.hid hsl
          have HLEN := Lib.hid hlen
          have L := Lib.hid hrow
          have O := Lib.hid hown
          have B := Lib.hid hbl
          have xL := hrow.lt
          clear hsl hlen hrow hown hbl zb HAT c2
          have A : Hid (RowAt (wr.alloc (actO r0 sb)) wr.heap.size #[.string r0, .bool sb] 65) := Lib.hid (RowAt.new _ _ _)
          replace L := Lib.hid (L.out.alloc (actO r0 sb))
          replace O := Lib.hid (O.out.alloc (actO r0 sb))
          replace B := Lib.hid (B.out.alloc B.out.size (actO r0 sb))
          by_cases hr : 1 ≤ q
          · have KI := fun w => isRec_any (r0.extract 0 q) w (by omega)
            rw [decide_eq_true (show 1 ≤ (r0.extract 0 q).size ∧ (r0.extract 0 q).size ≤ 4000 by omega)] at KI
            have KI := Lib.hid KI
            have KB := Lib.hid (fun w hv => wbegin_yes b n (.slice p m cap') ss (r0.extract 0 q) w hv HSL.out.1 (by omega) (by omega) (by have := HLEN.out; omega))
            have KP := Lib.hid (fun w hv => wappend_yes b n (.slice p m cap') ss (r0.extract 0 q) w hv HSL.out.1 (by omega) (by omega) (by have := HLEN.out; omega))
            have HS1 : Hid (SureLog (b ++ mkS (frameL (bl (r0.extract 0 q)))) n (ss ++ [r0.extract 0 q]) s) := Lib.hid (HSL.out.put (by omega) (by omega) (by omega))
            have HS2 : Hid (SureLog (b ++ mkS (frameL (bl (r0.extract 0 q)))) ((b ++ mkS (frameL (bl (r0.extract 0 q)))).size : Int) (ss ++ [r0.extract 0 q]) (m + 1)) := Lib.hid (by have := HSL.out.put2 (r := r0.extract 0 q) (by omega) (by omega) (by omega); rwa [HLEN.out] at this)
            have HL2 : Hid ((ss ++ [r0.extract 0 q]).length = m + 1) := Lib.hid (by rw [List.length_append, HLEN.out]; rfl)
            generalize b ++ mkS (frameL (bl (r0.extract 0 q))) = C at *
            generalize ss ++ [r0.extract 0 q] = ts at *
            clear zR hr
            cases sb with
            | false =>
              obtain ⟨e0, e1, ef0, ef1⟩ := A.out.c2
              obtain ⟨l0, l1, l2, lf0, lf1, lf2⟩ := L.out.c3
              go_wp2_with fail
              refine (KB.out _ O.out.row).mono ?_
              rintro e w2 ⟨v2, rfl, o2, hb⟩
              obtain ⟨p2, c2, rfl⟩ := strRow_shape o2.row HL2.out
              replace O := Lib.hid (o2.mono (b := LB + 1) (by simp; omega))
              (replace A := Lib.hid (A.out.belowS hb); replace L := Lib.hid (L.out.belowS hb); replace B := Lib.hid (B.out.trans (hb.mono B.out.size)); clear hb)
              clear o2
              clear e0 e1 ef0 ef1
              clear l0 l1 l2 lf0 lf1 lf2
              have xA := A.out.lt
              (replace A := Lib.hid (A.out.alloc (logO C n (.slice p2 (m + 1) c2))); replace L := Lib.hid (L.out.alloc (logO C n (.slice p2 (m + 1) c2))); replace B := Lib.hid (B.out.alloc B.out.size (logO C n (.slice p2 (m + 1) c2))))
              replace O := Lib.hid (O.out.alloc (logO C n (.slice p2 (m + 1) c2)))
              have T : Hid (RowAt (w2.alloc (logO C n (.slice p2 (m + 1) c2))) w2.heap.size #[.string C, .int .i64 n, .slice p2 (m + 1) c2] 49) := Lib.hid (RowAt.new _ _ _)
              obtain ⟨e0, e1, ef0, ef1⟩ := A.out.c2
              go_wp2_with fail
              refine (KI.out _).mono ?_
              rintro e w3 ⟨rfl, rfl⟩
              obtain ⟨t0, t1, t2, tf0, tf1, tf2⟩ := T.out.c3
              obtain ⟨l0, l1, l2, lf0, lf1, lf2⟩ := L.out.c3
              go_wp2_with fail
              go_roundw
              case rel =>
                exact ⟨k + 1, by omega, by go_num, C, n, p2, m + 1, c2, ts, s, rfl, HS1.out, HL2.out, by omega, by omega, ((L.out.set 0 _ rfl).set 1 _ rfl).set 2 _ rfl,
                  ((O.out.setLow _ _ (by simp)).setLow _ _ (by simp)).setLow _ _ (by simp), ((B.out.setCell (p := ⟨LB, 0, none⟩) (by simp; omega) _).setCell (p := ⟨LB, 1, none⟩) (by simp; omega) _).setCell (p := ⟨LB, 2, none⟩) (by simp; omega) _⟩
              case measure => simp [intOf]; omega
            | true =>
              obtain ⟨e0, e1, ef0, ef1⟩ := A.out.c2
              obtain ⟨l0, l1, l2, lf0, lf1, lf2⟩ := L.out.c3
              go_wp2_with fail
              refine (KB.out _ O.out.row).mono ?_
              rintro e w2 ⟨v2, rfl, o2, hb⟩
              obtain ⟨p2, c2, rfl⟩ := strRow_shape o2.row HL2.out
              (replace A := Lib.hid (A.out.belowS hb); replace L := Lib.hid (L.out.belowS hb); replace O := Lib.hid (O.out.below hb (Nat.le_refl _)); replace B := Lib.hid (B.out.trans (hb.mono B.out.size)); clear hb)
              clear o2
              clear e0 e1 ef0 ef1
              clear l0 l1 l2 lf0 lf1 lf2
              have xA := A.out.lt
              (replace A := Lib.hid (A.out.alloc (logO C n (.slice p2 (m + 1) c2))); replace L := Lib.hid (L.out.alloc (logO C n (.slice p2 (m + 1) c2))); replace B := Lib.hid (B.out.alloc B.out.size (logO C n (.slice p2 (m + 1) c2))))
              replace O := Lib.hid (O.out.alloc (logO C n (.slice p2 (m + 1) c2)))
              have T : Hid (RowAt (w2.alloc (logO C n (.slice p2 (m + 1) c2))) w2.heap.size #[.string C, .int .i64 n, .slice p2 (m + 1) c2] 49) := Lib.hid (RowAt.new _ _ _)
              obtain ⟨e0, e1, ef0, ef1⟩ := A.out.c2
              obtain ⟨l0, l1, l2, lf0, lf1, lf2⟩ := L.out.c3
              go_wp2_with fail
              refine (KP.out _ O.out.row).mono ?_
              rintro e w3 ⟨v3, rfl, o3, hb⟩
              obtain ⟨p3, c3, rfl⟩ := strRow_shape o3.row HL2.out
              replace O := Lib.hid (o3.mono (b := w2.heap.size + 1) (by simp))
              clear o3
              (replace A := Lib.hid (A.out.belowS hb); replace L := Lib.hid (L.out.belowS hb); replace T := Lib.hid (T.out.belowS hb); replace B := Lib.hid (B.out.trans (hb.mono B.out.size)); clear hb)
              clear e0 e1 ef0 ef1
              clear l0 l1 l2 lf0 lf1 lf2
              obtain ⟨e0, e1, ef0, ef1⟩ := A.out.c2
              obtain ⟨l0, l1, l2, lf0, lf1, lf2⟩ := L.out.c3
              obtain ⟨t0, t1, t2, tf0, tf1, tf2⟩ := T.out.c3
              have xT : LB < w2.heap.size := by omega
              go_wp2_with fail
              refine (KI.out _).mono ?_
              rintro e w4 ⟨rfl, rfl⟩
              replace T : Hid (RowAt (((w3.setCell ⟨w2.heap.size, 0, none⟩ (.string C)).setCell ⟨w2.heap.size, 1, none⟩ (.int .i64 C.size)).setCell ⟨w2.heap.size, 2, none⟩ (.slice p3 (m + 1) c3)) w2.heap.size #[.string C, .int .i64 C.size, .slice p3 (m + 1) c3] 49) := Lib.hid (((T.out.set 0 _ rfl).set 1 _ rfl).set 2 _ rfl)
              replace L : Hid (RowAt (((w3.setCell ⟨w2.heap.size, 0, none⟩ (.string C)).setCell ⟨w2.heap.size, 1, none⟩ (.int .i64 C.size)).setCell ⟨w2.heap.size, 2, none⟩ (.slice p3 (m + 1) c3)) LB _ _) := Lib.hid (((L.out.other _ _ (by simp; omega)).other _ _ (by simp; omega)).other _ _ (by simp; omega))
              replace A : Hid (RowAt (((w3.setCell ⟨w2.heap.size, 0, none⟩ (.string C)).setCell ⟨w2.heap.size, 1, none⟩ (.int .i64 C.size)).setCell ⟨w2.heap.size, 2, none⟩ (.slice p3 (m + 1) c3)) wr.heap.size _ _) := Lib.hid (((A.out.other _ _ (by simp; omega)).other _ _ (by simp; omega)).other _ _ (by simp; omega))
              replace O : Hid (OwnS (((w3.setCell ⟨w2.heap.size, 0, none⟩ (.string C)).setCell ⟨w2.heap.size, 1, none⟩ (.int .i64 C.size)).setCell ⟨w2.heap.size, 2, none⟩ (.slice p3 (m + 1) c3)) (w2.heap.size + 1) _ _) := Lib.hid (((O.out.setLow _ _ (by simp)).setLow _ _ (by simp)).setLow _ _ (by simp))
              replace B : Hid (Below w.heap.size w (((w3.setCell ⟨w2.heap.size, 0, none⟩ (.string C)).setCell ⟨w2.heap.size, 1, none⟩ (.int .i64 C.size)).setCell ⟨w2.heap.size, 2, none⟩ (.slice p3 (m + 1) c3))) := Lib.hid (((B.out.setCell (p := ⟨w2.heap.size, 0, none⟩) (by simp; omega) _).setCell (p := ⟨w2.heap.size, 1, none⟩) (by simp; omega) _).setCell (p := ⟨w2.heap.size, 2, none⟩) (by simp; omega) _)
              clear e0 e1 ef0 ef1
              clear l0 l1 l2 lf0 lf1 lf2
              clear t0 t1 t2 tf0 tf1 tf2
              generalize ((w3.setCell ⟨w2.heap.size, 0, none⟩ (.string C)).setCell ⟨w2.heap.size, 1, none⟩ (.int .i64 C.size)).setCell ⟨w2.heap.size, 2, none⟩ (.slice p3 (m + 1) c3) = W4 at *
              obtain ⟨t0, t1, t2, tf0, tf1, tf2⟩ := T.out.c3
              obtain ⟨l0, l1, l2, lf0, lf1, lf2⟩ := L.out.c3
              obtain ⟨e0, e1, ef0, ef1⟩ := A.out.c2
              have xAL : wr.heap.size ≠ LB := by omega
              have xLA : LB ≠ wr.heap.size := by omega
              go_wp2_with fail
              go_roundw
              case rel =>
                exact ⟨k + 1, by omega, by go_num, C, (C.size : Int), p3, m + 1, c3, ts, m + 1, by go_num, HS2.out, HL2.out, by omega, by omega, ((L.out.set 0 _ rfl).set 1 _ rfl).set 2 _ rfl,
                  (((O.out.setLow _ _ (by simp; omega)).setLow _ _ (by simp; omega)).setLow _ _ (by simp; omega)).mono (by omega), ((B.out.setCell (p := ⟨LB, 0, none⟩) (by simp; omega) _).setCell (p := ⟨LB, 1, none⟩) (by simp; omega) _).setCell (p := ⟨LB, 2, none⟩) (by simp; omega) _⟩
              case measure => simp [intOf]; omega
          · have hno : ¬ (LogOk b n ss ∧ 1 ≤ (r0.extract 0 q).size ∧ (r0.extract 0 q).size ≤ 4000) := fun h => by have := h.2.1; omega
            have KI := fun w => isRec_any (r0.extract 0 q) w (by omega)
            rw [decide_eq_false (show ¬ (1 ≤ (r0.extract 0 q).size ∧ (r0.extract 0 q).size ≤ 4000) by omega)] at KI
            have KI := Lib.hid KI
            have KB := Lib.hid (fun w hv => wbegin_no b n (.slice p m cap') ss (r0.extract 0 q) w hv (by omega) (by omega) hno)
            have KP := Lib.hid (fun w hv => wappend_no b n (.slice p m cap') ss (r0.extract 0 q) w hv (by omega) (by omega) hno)
            clear zR hr hno
            cases sb with
            | false =>
              obtain ⟨e0, e1, ef0, ef1⟩ := A.out.c2
              obtain ⟨l0, l1, l2, lf0, lf1, lf2⟩ := L.out.c3
              go_wp2_with fail
              refine (KB.out _ O.out.row).mono ?_
              rintro e w2 ⟨rfl, hb⟩
              (replace A := Lib.hid (A.out.belowS hb); replace L := Lib.hid (L.out.belowS hb); replace O := Lib.hid (O.out.below hb (Nat.le_refl _)); replace B := Lib.hid (B.out.trans (hb.mono B.out.size)); clear hb)
              clear e0 e1 ef0 ef1
              clear l0 l1 l2 lf0 lf1 lf2
              (replace A := Lib.hid (A.out.alloc (logO ⟨#[]⟩ 0 (.slice none 0 0))); replace L := Lib.hid (L.out.alloc (logO ⟨#[]⟩ 0 (.slice none 0 0))); replace B := Lib.hid (B.out.alloc B.out.size (logO ⟨#[]⟩ 0 (.slice none 0 0))))
              replace O := Lib.hid (O.out.alloc (logO ⟨#[]⟩ 0 (.slice none 0 0)))
              obtain ⟨e0, e1, ef0, ef1⟩ := A.out.c2
              go_wp2_with fail
              refine (KI.out _).mono ?_
              rintro e w3 ⟨rfl, rfl⟩
              go_wp2_with fail
              go_roundw
              case rel => exact ⟨k + 1, by omega, by go_num, b, n, p, m, cap', ss, s, rfl, HSL.out, HLEN.out, by omega, by omega, L.out, O.out, B.out⟩
              case measure => simp [intOf]; omega
            | true =>
              obtain ⟨e0, e1, ef0, ef1⟩ := A.out.c2
              obtain ⟨l0, l1, l2, lf0, lf1, lf2⟩ := L.out.c3
              go_wp2_with fail
              refine (KB.out _ O.out.row).mono ?_
              rintro e w2 ⟨rfl, hb⟩
              (replace A := Lib.hid (A.out.belowS hb); replace L := Lib.hid (L.out.belowS hb); replace O := Lib.hid (O.out.below hb (Nat.le_refl _)); replace B := Lib.hid (B.out.trans (hb.mono B.out.size)); clear hb)
              clear e0 e1 ef0 ef1
              clear l0 l1 l2 lf0 lf1 lf2
              have xA := A.out.lt
              have OS := Lib.hid O.out
              have B2 : Hid (Below w2.heap.size w2 (w2.alloc (logO ⟨#[]⟩ 0 (.slice none 0 0)))) := Lib.hid ((Below.refl _ _).alloc (Nat.le_refl _) _)
              (replace A := Lib.hid (A.out.alloc (logO ⟨#[]⟩ 0 (.slice none 0 0))); replace L := Lib.hid (L.out.alloc (logO ⟨#[]⟩ 0 (.slice none 0 0))); replace B := Lib.hid (B.out.alloc B.out.size (logO ⟨#[]⟩ 0 (.slice none 0 0))))
              replace O := Lib.hid (O.out.alloc (logO ⟨#[]⟩ 0 (.slice none 0 0)))
              have T : Hid (RowAt (w2.alloc (logO ⟨#[]⟩ 0 (.slice none 0 0))) w2.heap.size #[.string ⟨#[]⟩, .int .i64 0, .slice none 0 0] 49) := Lib.hid (RowAt.new _ _ _)
              obtain ⟨e0, e1, ef0, ef1⟩ := A.out.c2
              obtain ⟨l0, l1, l2, lf0, lf1, lf2⟩ := L.out.c3
              go_wp2_with fail
              refine (KP.out _ O.out.row).mono ?_
              rintro e w3 ⟨rfl, hb⟩
              (replace A := Lib.hid (A.out.belowS hb); replace L := Lib.hid (L.out.belowS hb); replace T := Lib.hid (T.out.belowS hb); replace B := Lib.hid (B.out.trans (hb.mono B.out.size)); replace B2 := Lib.hid (B2.out.trans (hb.mono B2.out.size)); clear hb)
              clear e0 e1 ef0 ef1
              clear l0 l1 l2 lf0 lf1 lf2
              obtain ⟨e0, e1, ef0, ef1⟩ := A.out.c2
              obtain ⟨t0, t1, t2, tf0, tf1, tf2⟩ := T.out.c3
              have xT : LB < w2.heap.size := by omega
              have xTL : w2.heap.size ≠ LB := by omega
              have xTA : w2.heap.size ≠ wr.heap.size := by omega
              go_wp2_with fail
              refine (KI.out _).mono ?_
              rintro e w4 ⟨rfl, rfl⟩
              go_wp2_with fail
              go_roundw
              case rel =>
                exact ⟨k + 1, by omega, by go_num, b, n, p, m, cap', ss, s, rfl, HSL.out, HLEN.out, by omega, by omega, ((L.out.other _ _ (by simp; omega)).other _ _ (by simp; omega)).other _ _ (by simp; omega),
                  OS.out.below (((B2.out.setCell (p := ⟨w2.heap.size, 0, none⟩) (by simp) _).setCell (p := ⟨w2.heap.size, 1, none⟩) (by simp) _).setCell (p := ⟨w2.heap.size, 2, none⟩) (by simp) _) (Nat.le_refl _),
                  ((B.out.setCell (p := ⟨w2.heap.size, 0, none⟩) (by simp; omega) _).setCell (p := ⟨w2.heap.size, 1, none⟩) (by simp; omega) _).setCell (p := ⟨w2.heap.size, 2, none⟩) (by simp; omega) _⟩
              case measure => simp [intOf]; omega
        · clear hsl hlen hmk hrow hown hbl hk14 c2
          go_wp2
          go_meet
          case rel => exact ⟨k, HAT.out.alloc _⟩
      · go_wp2
        go_meet
        case rel => exact ⟨k, HAT.out⟩
  case rest =>
    obtain ⟨k, b, n, p, m, cap', ss, s, rfl, hsl, hlen, hmk, hk14, hrow, hown, hbl⟩ := hcut
    clear HC L B h1 h2
    have zb := hsl.size
    have zb2 : b.size ≤ 206 * 14 := by have := Nat.mul_le_mul_left 206 (by omega : ss.length ≤ 14); omega
    have hn0 := hsl.1.1.2.1
    have hnb := hsl.1.1.2.2
    obtain ⟨q, q1, q2, hq⟩ := crash_q more hn0 hnb
    have KC := fun w => crash_yes b n more (q : Int) w (by omega) hn0 hnb hq
    simp only [Int.toNat_natCast] at KC
    replace KC := Lib.hid KC
    obtain ⟨N, N1, N2, N3, N4, N5⟩ := hsl.crash q q1 q2
    obtain ⟨hO, hOz⟩ := hsl.opened q N q2 N4
    have zD : (b.extract 0 q).size = q := by rw [ByteArray.size_extract]; omega
    have KO := fun w => wopen_yes (b.extract 0 q) (q : Int) w (by omega) (by omega) (by omega)
    rw [N3] at KO
    simp only [map_bl_mk] at KO
    replace KO := Lib.hid KO
    have tN : (ss.take N).length = N := by rw [List.length_take]; omega
    have KF1 := Lib.hid (fun v w hv => frames_yes v (ss.take N) w hv (recsOk_take hsl.1.2.1 N) (by omega))
    have KF2 := Lib.hid (fun v w hv => frames_yes v (ss.take (N + 1)) w hv (recsOk_take hsl.1.2.1 (N + 1)) (by rw [List.length_take]; omega))
    have KR := Lib.hid (fun v w hv => rlogRight_yes _ _ v _ w hv hO (by omega))
    have KS := Lib.hid (fun u v w hu hv => same_yes u v (ss.take N) w hu hv)
    obtain ⟨r, qm1, qm2, qm3⟩ := minIs_ex 200 (by omega) last.size
    have zR : (last.extract 0 r).size = r := by rw [ByteArray.size_extract]; omega
    have zM1 : (mkS (framesOf ((ss.take N).map bl))).size = (framesOf ((ss.take N).map bl)).length := mk_size _
    have zM2 : N < m → q < (mkS (framesOf ((ss.take (N + 1)).map bl))).size := fun h => by rw [mk_size]; exact N5 (by omega)
    have KI := Lib.hid (fun w => isRec_any (last.extract 0 r) w (by omega))
    have HT := Lib.hid (fun hr : 1 ≤ (last.extract 0 r).size ∧ (last.extract 0 r).size ≤ 4000 => logOk_put hO hr (by omega) (Int.natCast_nonneg _) (Int.le_refl _))
    have KP := Lib.hid (fun v w hv hr => wappend_yes _ _ v _ (last.extract 0 r) w hv hO hr (by omega) (by omega))
    have KN := Lib.hid (fun v w hv (hr : ¬ (1 ≤ (last.extract 0 r).size ∧ (last.extract 0 r).size ≤ 4000)) => wappend_no ((b.extract 0 q).extract 0 (framesOf ((ss.take N).map bl)).length) _ v _ (last.extract 0 r) w hv (by omega) (by omega) (fun h : LogOk _ ((framesOf ((ss.take N).map bl)).length : Nat) (ss.take N) ∧ _ => hr h.2))
    have HG := Lib.hid (fun d => getD_snoc (r := last.extract 0 r) (d := d) tN)
    obtain ⟨hcap, hcap2⟩ : m ≤ cap' ∧ cap' ≤ 9223372036854775807 := by
      obtain ⟨_, kq, eq, g1, g2, _⟩ := strRow_slice hown.row
      simp only [Value.slice.injEq] at eq
      obtain ⟨-, -, rfl⟩ := eq
      exact ⟨by omega, g2⟩
    rw [hlen] at N2
    have hNc : N ≤ cap' := by omega
    have L := Lib.hid hrow
    have O := Lib.hid hown
    have B := Lib.hid hbl
    clear hsl hrow hown hbl N3 N5 hO
    generalize mkS (framesOf ((ss.take N).map bl)) = M1 at *
    generalize mkS (framesOf ((ss.take (N + 1)).map bl)) = M2 at *
    generalize (framesOf ((ss.take N).map bl)).length = F at *
    generalize (b.extract 0 q).extract 0 F = D2 at *
    generalize hD : b.extract 0 q = D at *
    clear hD
    obtain ⟨l0, l1, l2, lf0, lf1, lf2⟩ := L.out.c3
    go_wp2_with fail
    refine (KC.out _).mono ?_
    rintro e w2 ⟨rfl, hb⟩
    (replace L := Lib.hid (L.out.belowS hb); replace O := Lib.hid (O.out.below hb (Nat.le_refl _)); replace B := Lib.hid (B.out.trans (hb.mono B.out.size)); clear hb)
    clear l0 l1 l2 lf0 lf1 lf2
    have xw := L.out.lt
    (replace L := Lib.hid (L.out.alloc (devO D q)); replace O := Lib.hid (O.out.below ((Below.refl (w2).heap.size (w2)).alloc (Nat.le_refl _) (devO D q)) (Nat.le_refl _)); replace B := Lib.hid (B.out.alloc B.out.size (devO D q)))
    have C : Hid (RowAt (w2.alloc (devO D q)) w2.heap.size #[.string D, .int .i64 q] 47) := Lib.hid (RowAt.new _ _ _)
    obtain ⟨c0, c1, cf0, cf1⟩ := C.out.c2
    go_wp2_with fail
    refine (KO.out _).mono ?_
    rintro e w3 ⟨v3, rfl, o3, hb⟩
    obtain ⟨p3, k3, rfl⟩ := strRow_shape o3.row tN
    replace o3 := o3.mono (b := w2.heap.size + 1) (by simp)
    (replace L := Lib.hid (L.out.belowS hb); replace C := Lib.hid (C.out.belowS hb); replace O := Lib.hid (O.out.below hb (Nat.le_refl _)); replace B := Lib.hid (B.out.trans (hb.mono B.out.size)); clear hb)
    clear c0 c1 cf0 cf1
    have O3 := Lib.hid o3
    clear o3
    have xC := C.out.lt
    (replace L := Lib.hid (L.out.alloc (logO D2 F (.slice p3 N k3))); replace C := Lib.hid (C.out.alloc (logO D2 F (.slice p3 N k3))); replace B := Lib.hid (B.out.alloc B.out.size (logO D2 F (.slice p3 N k3))))
    replace O := Lib.hid (O.out.alloc (logO D2 F (.slice p3 N k3)))
    replace O3 := Lib.hid (O3.out.alloc (logO D2 F (.slice p3 N k3)))
    have T : Hid (RowAt (w3.alloc (logO D2 F (.slice p3 N k3))) w3.heap.size #[.string D2, .int .i64 F, .slice p3 N k3] 49) := Lib.hid (RowAt.new _ _ _)
    obtain ⟨t0, t1, t2, tf0, tf1, tf2⟩ := T.out.c3
    go_upto_region 22 with (fail)
    generalize hW3 : w3.alloc (logO D2 F (.slice p3 N k3)) = W3 at *
    have hz3 : w3.heap.size < W3.heap.size := by rw [← hW3]; simp
    clear hW3
    generalize w3.heap.size = LT at *
    generalize w2.heap.size = LC at *
    have U := Lib.hid (fun u : Later W3 => O.out.row.below u.below (Nat.le_refl _))
    have U3 := Lib.hid (fun u : Later W3 => O3.out.row.below u.below (Nat.le_refl _))
    have UT := Lib.hid (fun u : Later W3 => takeV_row (U.out u) (m := N) (by omega))
    obtain ⟨l0, l1, l2⟩ := T.out.l3
    clear t0 t1 t2 tf0 tf1 tf2
    (refine region_later mix ?hB ?_; case hB => kernel_rfl); (repeat (first | go_big_quiet_step ((first | (go_at_call 31; exact Later.call (KS.out _ _ _ (U3.out _) (UT.out _))) | (go_at_call 45; with_reducible exact Later.call (KR.out _ _ (U3.out _))) | (go_at_call 48; with_reducible exact Later.call (alive13 _)))) | quiet_step ((first | (go_at_call 31; exact Later.call (KS.out _ _ _ (U3.out _) (UT.out _))) | (go_at_call 45; with_reducible exact Later.call (KR.out _ _ (U3.out _))) | (go_at_call 48; with_reducible exact Later.call (alive13 _)))))); (refine wpQuiet_nil ?_; rintro _ ⟨u, rfl⟩)
    replace L := Lib.hid (L.out.later u)
    replace C := Lib.hid (C.out.later u)
    replace T := Lib.hid (T.out.later u)
    replace O := Lib.hid (O.out.row.below u.below (Nat.le_refl _))
    replace O3 := Lib.hid (O3.out.row.below u.below (Nat.le_refl _))
    have hz4 := u.size
    replace B := Lib.hid (B.out.trans (u.below.mono B.out.size))
    generalize u.w = W4 at *
    clear l0 l1 l2 U U3 UT u KS KR
    have OT := Lib.hid (takeV_row O.out (m := N) (by omega))
    go_wp2_with fail
    refine (KF1.out _ _ OT.out).mono ?_
    rintro e w5 ⟨rfl, hb⟩
    have hz5 := hb.size
    (replace L := Lib.hid (L.out.belowS hb); replace C := Lib.hid (C.out.belowS hb); replace T := Lib.hid (T.out.belowS hb); replace O := Lib.hid (O.out.below hb (Nat.le_refl _)); replace O3 := Lib.hid (O3.out.below hb (Nat.le_refl _)); replace B := Lib.hid (B.out.trans (hb.mono B.out.size)); clear hb)
    clear OT
    obtain ⟨t0, t1, t2, tf0, tf1, tf2⟩ := T.out.c3
    by_cases hNm : N < m
    have zM := zM2 hNm
    have hNc1 : N + 1 ≤ cap' := by omega
    have OT := Lib.hid (takeV_row O.out (m := N + 1) (by omega))
    go_wp2_with fail
    refine (KF2.out _ _ OT.out).mono ?_
    rintro e w6 ⟨rfl, hb⟩
    have hz6 := hb.size
    (replace L := Lib.hid (L.out.belowS hb); replace C := Lib.hid (C.out.belowS hb); replace T := Lib.hid (T.out.belowS hb); replace O := Lib.hid (O.out.below hb (Nat.le_refl _)); replace O3 := Lib.hid (O3.out.below hb (Nat.le_refl _)); replace B := Lib.hid (B.out.trans (hb.mono B.out.size)); clear hb)
    clear t0 t1 t2 tf0 tf1 tf2
    obtain ⟨t0, t1, t2, tf0, tf1, tf2⟩ := T.out.c3
    obtain ⟨c0, c1, cf0, cf1⟩ := C.out.c2
    clear OT
    go_wp2_with fail
    clear c0 c1 cf0 cf1
    clear zM hNc1
    all_goals
      rename World => w7
      clear zM2 KF1 KF2 hNm C L O
      by_cases hr : 1 ≤ (last.extract 0 r).size ∧ (last.extract 0 r).size ≤ 4000
      · have KP1 := Lib.hid (fun v w hv => KP.out v w hv hr)
        have HT1 := Lib.hid (HT.out hr)
        have KI1 := KI.out
        rw [decide_eq_true hr] at KI1
        replace KI := Lib.hid KI1
        clear KI1 KN KP HT
        refine (KP1.out _ _ O3.out).mono ?_
        rintro e w8 ⟨v8, rfl, o8, hb⟩
        obtain ⟨p8, k8, rfl⟩ := strRow_shape o8.row (n := N + 1) (by rw [List.length_append, tN]; rfl)
        clear o8
        have zN := HT1.out.1.1
        have KW := Lib.hid (fun w => wopen_log _ _ _ w HT1.out)
        generalize D2 ++ mkS (frameL (bl (last.extract 0 r))) = E at *
        have tN1 : (ss.take N ++ [last.extract 0 r]).length = N + 1 := by rw [List.length_append, tN]; rfl
        (replace T := Lib.hid (T.out.belowS hb); replace B := Lib.hid (B.out.trans (hb.mono B.out.size)); clear hb)
        clear t0 t1 t2 tf0 tf1 tf2
        have xT := T.out.lt
        (replace T := Lib.hid (T.out.alloc (logO E E.size (.slice p8 (N + 1) k8))); replace B := Lib.hid (B.out.alloc B.out.size (logO E E.size (.slice p8 (N + 1) k8))))
        have A : Hid (RowAt (w8.alloc (logO E E.size (.slice p8 (N + 1) k8))) w8.heap.size #[.string E, .int .i64 E.size, .slice p8 (N + 1) k8] 49) := Lib.hid (RowAt.new _ _ _)
        go_wp2_with fail
        refine (KI.out _).mono ?_
        rintro e w9 ⟨rfl, rfl⟩
        obtain ⟨t0, t1, t2, tf0, tf1, tf2⟩ := A.out.c3
        go_wp2_with fail
        refine (KW.out _).mono ?_
        rintro e w10 ⟨v10, rfl, o10, hb⟩
        obtain ⟨p10, k10, rfl⟩ := strRow_shape o10.row tN1
        obtain ⟨pz, kz, ez, -, -, -, q4⟩ := strRow_slice o10.row
        obtain ⟨az, hpz, hcz⟩ := q4 N (by omega)
        have hg := HG.out ByteArray.empty
        rw [hg] at hcz
        simp only [Value.slice.injEq] at ez
        obtain ⟨ez1, -, ez2⟩ := ez
        rw [← ez1] at hpz
        clear ez1 ez2
        subst p10
        have hlt := block_lt_of_cell hcz
        rw [addr_add_block] at hlt
        clear q4 o10 hg
        (replace T := Lib.hid (T.out.belowS hb); replace B := Lib.hid (B.out.trans (hb.mono B.out.size)); clear hb)
        clear t0 t1 t2 tf0 tf1 tf2
        replace hcz : (w10.alloc (logO E E.size (.slice (some az) (N + 1) k10))).cell? (az.add N) = some (.string (last.extract 0 r)) := by rw [((Below.refl w10.heap.size w10).alloc (Nat.le_refl _) _).cell (block_lt_of_cell hcz)]; exact hcz
        (replace T := Lib.hid (T.out.alloc (logO E E.size (.slice (some az) (N + 1) k10))); replace B := Lib.hid (B.out.alloc B.out.size (logO E E.size (.slice (some az) (N + 1) k10))))
        have Z : Hid (RowAt (w10.alloc (logO E E.size (.slice (some az) (N + 1) k10))) w10.heap.size #[.string E, .int .i64 E.size, .slice (some az) (N + 1) k10] 49) := Lib.hid (RowAt.new _ _ _)
        obtain ⟨t0, t1, t2, tf0, tf1, tf2⟩ := T.out.c3
        obtain ⟨z0, z1, z2, zf0, zf1, zf2⟩ := Z.out.c3
        go_wp2_with fail
        go_ret
        exact ⟨rfl, B.out⟩
      · have KN1 := Lib.hid (fun v w hv => KN.out v w hv hr)
        have KI1 := KI.out
        rw [decide_eq_false hr] at KI1
        replace KI := Lib.hid KI1
        clear KI1 KN KP HT hr
        refine (KN1.out _ _ O3.out).mono ?_
        rintro e w8 ⟨rfl, hb⟩
        (replace B := Lib.hid (B.out.trans (hb.mono B.out.size)); clear hb)
        go_wp2_with fail
        refine (KI.out _).mono ?_
        rintro e w9 ⟨rfl, rfl⟩
        go_wp2_with fail
        go_ret
        exact ⟨rfl, B.out.alloc B.out.size _⟩

theorem whole_row {v : Value} {acts : List (ByteArray × Bool)} (more : Int) (last : ByteArray) (w : World) (h : ActRow w v acts) (hm : -9223372036854775808 ≤ more ∧ more ≤ 9223372036854775807) (hl : last.size ≤ 9223372036854775807) :
    Calls Try.prog 14 #[v, .int .i64 more, .string last] w fun e w' => e = .returned (.bool true) ∧ Below w.heap.size w w' := by
  rcases h with ⟨rfl, rfl⟩ | ⟨a, len, cap, rfl, h1, h2, _, hc⟩
  · exact whole_any none 0 0 [] more last w (Nat.le_refl _) (by decide) (fun i hi => absurd hi (Nat.not_lt_zero i)) hm hl
  · exact whole_any (some a) len cap acts more last w h1 h2 (fun i hi => ⟨a, rfl, hc i hi⟩) hm hl

theorem walWhole_walk (W : World) (v : Value) (x : List (ByteArray × Bool)) (hx : ActRow W v x) (m : Int) (hm : (Lit.int .i64 m).wf = true) (s : ByteArray) (hs : s.size ≤ maxLen) :
    Calls Try.prog 14 #[v, .int .i64 m, .string s] W fun e W' => e = .returned (.bool true) ∧ Below W.heap.size W W' := by
  unfold maxLen at hs
  exact whole_row m s W hx (i64_bd hm) hs
end Go.Proofs.Ytddeeejfmodgfaa
