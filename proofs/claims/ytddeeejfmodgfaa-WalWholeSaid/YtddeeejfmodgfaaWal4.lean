/- Wal: contracts of the program: Begin, Append, Open, New. -/
import Derived.Test.YtddeeejfmodgfaaWal3
import Derived.ArgAppend
import Derived.Test.YtddeeejfmodgfaaRow
namespace Go.Proofs.Ytddeeejfmodgfaa
open Go.RowKit

/-- 'append' of one string to a slice of strings that has no room. -/
theorem wpList_append_str_grows {ops : Array Oper} {rest : List Oper} {o : Oper} {a : Act} {Q : Exit → Act → World → Prop} {w : World} (hgd : o.guard = Option.none) (s x : Operand)
    (ho : o.op = .call { callee := .builtin .append, args := #[s, x], argTypes := #[33, 33] }) (p : Option Addr) (l : List ByteArray) (n cap : Nat) (hs : a.eval s = .slice p n n) (hrow : StrRow w (.slice p n cap) l)
    (ad : Addr) (r : ByteArray) (hx : a.eval x = .slice (some ad) 1 1) (hnew : ∀ j (h : j < [r].length), w.cell? (ad.add j) = some (.string [r][j])) (hb : n + 1 ≤ 8796093022208)
    (h : ∀ v' w', OwnS w' w.heap.size v' (l ++ [r]) → Below w.heap.size w w' → wpList Try.prog ops Q rest (a.put o.dst v') w') : wpList Try.prog ops Q (o :: rest) a w := by
  obtain ⟨i0, hi, hz0, hz1, hz2⟩ := info_parts info_str
  obtain ⟨p', cap', e, g1, g2, g3, hc⟩ := strRow_slice hrow
  injection e with e1 e2 e3
  subst e1 e2 e3
  have hp : p = none → l.length = 0 := fun e => by have := g3 e; omega
  refine wpList_append_grows w hgd s x 33 ho 9 i0 (.string ⟨#[]⟩) 1 16 Try.underlying33 hi hz0 hz1 hz2 rfl (by decide) p l.length l.length (svals l) hs (fun e => ⟨hp e, hp e⟩) (by simp [svals]) ?_ ad 1 1 (svals [r]) hx (by simp [svals]) ?_ ?_ (by omega) (by unfold maxLen; omega) (by omega) ?_
  · intro b hb j u hj
    simp only [svals, List.getElem?_map, Option.map_eq_some_iff] at hj
    obtain ⟨x, hx1, rfl⟩ := hj
    obtain ⟨hlt, rfl⟩ := List.getElem?_eq_some_iff.1 hx1
    obtain ⟨b', hb', hcell⟩ := hc j hlt
    rw [hb] at hb'
    cases hb'
    rw [hcell, List.getD, List.getElem?_eq_getElem hlt]
    rfl
  · intro j u hj
    simp only [svals, List.getElem?_map, Option.map_eq_some_iff] at hj
    obtain ⟨x, hx1, rfl⟩ := hj
    obtain ⟨hlt, rfl⟩ := List.getElem?_eq_some_iff.1 hx1
    exact hnew j hlt
  · intro u hu
    obtain ⟨b, _, rfl⟩ := List.mem_map.1 hu
    rfl
  · intro v' w' hown' hg
    refine h v' w' ?_ ((Below.refl w.heap.size w).grown hg (Nat.le_refl _) fun k hk => by cases hk)
    unfold OwnS svals at *
    rw [List.length_append, List.map_append]
    exact hown'

theorem frame_some (s : ByteArray) (w : World) (hs : s.size ≤ 9223372036854775807) :
    Calls Try.prog 18 #[.string s] w fun e w' => (∃ (F : ByteArray) (c : Int), e = .returned (.tuple #[.string F, .int .i64 c])) ∧ Below w.heap.size w w' := by
  by_cases h : 1 ≤ s.size ∧ s.size ≤ 4000
  · exact (crcFrame_yes s w h.1 h.2).mono fun _ _ ⟨h1, h2⟩ => ⟨⟨_, _, h1⟩, h2⟩
  · exact (crcFrame_no s w hs h).mono fun _ _ ⟨h1, h2⟩ => ⟨⟨_, _, h1⟩, h2⟩

theorem heap_size2 (w : World) (o o' : Obj) : ((w.alloc o).alloc o').heap.size = w.heap.size + 2 := by simp

/-- The empty log. -/
abbrev log0 : Value := logV ⟨#[]⟩ 0 (.slice none 0 0)

set_option maxHeartbeats 2000000 in
theorem wbegin_yes (b : ByteArray) (n : Int) (v : Value) (ss : List ByteArray) (r : ByteArray) (w : World) (hv : StrRow w v ss) (h : LogOk b n ss) (hr : 1 ≤ r.size ∧ r.size ≤ 4000) (hb : b.size ≤ 190000) (hn : ss.length ≤ 100000) :
    Calls Try.prog 39 #[logV b n v, .string r] w fun e w' => ∃ v', e = .returned (.tuple #[logV (b ++ mkS (frameL (bl r))) n v', .int .i64 0]) ∧ OwnS w' w.heap.size v' (ss ++ [r]) ∧ Below w.heap.size w w' := by
  have KF := Lib.hid (fun w => crcFrame_yes r w hr.1 hr.2)
  have KR := Lib.hid (fun w hv => wright_yes b n v ss w hv h)
  have zF : (mkS (frameL (bl r))).size ≤ 4006 := by rw [mk_size, frameL_length, bl_length]; omega
  obtain ⟨⟨h1, h2, h3⟩, h4⟩ := h
  generalize mkS (frameL (bl r)) = F at *
  have KA := Lib.hid (fun w => append_yes b F n w h1 h2 h3 (by omega))
  obtain ⟨p, cap, rfl, l1, l2, l3, _⟩ := strRow_slice hv
  have HV := Lib.hid hv
  have KC := Lib.hid (fun w => clip_any p ss.length cap w l1 (by unfold maxLen at l2; omega) l3)
  clear h4 hv hr l1 l2 l3
  have R : Hid (RowAt ((w.alloc (.cells #[.string b, .int .i64 n, .slice p ss.length cap] 49)).alloc (.cells #[.string ⟨#[]⟩, .int .i64 0, .slice none 0 0] 49)) w.heap.size #[.string b, .int .i64 n, .slice p ss.length cap] 49) := Lib.hid ((RowAt.new _ _ _).alloc _)
  have S : Hid (RowAt ((w.alloc (.cells #[.string b, .int .i64 n, .slice p ss.length cap] 49)).alloc (.cells #[.string ⟨#[]⟩, .int .i64 0, .slice none 0 0] 49)) (w.heap.size + 1) #[.string ⟨#[]⟩, .int .i64 0, .slice none 0 0] 49) := Lib.hid (RowAt.new' _ _ _ (by simp))
  have B : Hid (Below w.heap.size w ((w.alloc (.cells #[.string b, .int .i64 n, .slice p ss.length cap] 49)).alloc (.cells #[.string ⟨#[]⟩, .int .i64 0, .slice none 0 0] 49))) := Lib.hid (((Below.refl w.heap.size w).alloc (Nat.le_refl _) _).alloc (by simp) _)
  go_enter Try.func39, Try.ntmps39
  go_wp2_with fail
  refine (KF.out _).mono ?_
  rintro e w1 ⟨rfl, hb⟩
  (replace R := Lib.hid (R.out.belowS hb); replace S := Lib.hid (S.out.belowS hb); replace B := Lib.hid (B.out.trans (hb.mono B.out.size)); clear hb)
  obtain ⟨a0, a1, a2, af0, af1, af2⟩ := R.out.c3
  go_wp2_with fail
  refine (KR.out _ (HV.out.below B.out (Nat.le_refl _))).mono ?_
  rintro e w2 ⟨rfl, hb⟩
  (replace R := Lib.hid (R.out.belowS hb); replace S := Lib.hid (S.out.belowS hb); replace B := Lib.hid (B.out.trans (hb.mono B.out.size)); clear hb)
  clear a0 a1 a2 af0 af1 af2
  obtain ⟨a0, a1, a2, af0, af1, af2⟩ := R.out.c3
  go_wp2_with fail
  refine (KA.out _).mono ?_
  rintro e w3 ⟨rfl, hb⟩
  (replace R := Lib.hid (R.out.belowS hb); replace S := Lib.hid (S.out.belowS hb); replace B := Lib.hid (B.out.trans (hb.mono B.out.size)); clear hb)
  clear a0 a1 a2 af0 af1 af2
  obtain ⟨a0, a1, a2, af0, af1, af2⟩ := R.out.c3
  have Z := Lib.hid S.out.lt
  go_wp2_with fail
  refine (KC.out _).mono ?_
  rintro e w4 ⟨rfl, rfl⟩
  replace R : Hid (RowAt (((w3.setCell ⟨w.heap.size, 0, none⟩ (.string (b ++ F))).setCell ⟨w.heap.size, 1, none⟩ (.int .i64 n)).alloc (.cells #[.string r] 9)) w.heap.size #[.string (b ++ F), .int .i64 n, .slice p ss.length cap] 49) :=
    Lib.hid (((R.out.set 0 (.string (b ++ F)) rfl).set 1 (.int .i64 n) rfl).alloc _)
  replace S : Hid (RowAt (((w3.setCell ⟨w.heap.size, 0, none⟩ (.string (b ++ F))).setCell ⟨w.heap.size, 1, none⟩ (.int .i64 n)).alloc (.cells #[.string r] 9)) (w.heap.size + 1) #[.string ⟨#[]⟩, .int .i64 0, .slice none 0 0] 49) :=
    Lib.hid (((S.out.other _ _ (by simp)).other _ _ (by simp)).alloc _)
  replace B := Lib.hid (((B.out.setCell (p := ⟨w.heap.size, 0, none⟩) (Nat.le_refl _) (.string (b ++ F))).setCell (p := ⟨w.heap.size, 1, none⟩) (Nat.le_refl _) (.int .i64 n)).alloc (by simp; have := Z.out; omega) (.cells #[.string r] 9))
  clear a0 a1 a2 af0 af1 af2
  go_wp2_with (first
    | (at_builtin; refine wpList_append_str_grows rfl _ _ rfl p ss ss.length cap ?c0 ?c1 ⟨w3.heap.size, 0, none⟩ r ?c2 ?c3 ?c4 ?c5))
  case c0 => rfl
  case c2 => rfl
  case c4 => omega
  case c3 => exact one_str_at (by simp)
  case c1 => exact (HV.out.below B.out (Nat.le_refl _))
  intro v' w5 hrow hb
  have Z' := Z.out
  replace R := Lib.hid (R.out.below hb (by omega))
  replace S := Lib.hid (S.out.below hb (by omega))
  replace B := Lib.hid (B.out.trans (hb.mono (by omega)))
  have O := Lib.hid hrow
  obtain ⟨p', cap', rfl, _⟩ := strRow_slice hrow.row
  generalize (ss ++ [r]).length = m at *
  clear hb hrow
  obtain ⟨a0, a1, a2, af0, af1, af2⟩ := R.out.c3
  obtain ⟨d0, d1, d2, df0, df1, df2⟩ := S.out.c3
  go_wp2
  refine bodyPost_ret (v := .tuple #[logV (b ++ F) n (.slice p' m cap'), .int .i64 0]) (by simp [results, Try.results39, go_sem, d0, d1, d2]) rfl ⟨_, rfl, ?_, ?_⟩
  · exact ((((O.out.setLow _ _ (by simp; omega)).setLow _ _ (by simp; omega)).setLow _ _ (by simp; omega)).setLow _ _ (by simp; omega)).mono (by first | omega | (simp; omega) | simp)
  · exact (((B.out.setCell (p := ⟨w.heap.size, 2, none⟩) (Nat.le_refl _) _).setCell (p := ⟨w.heap.size + 1, 0, none⟩) (by simp) _).setCell (p := ⟨w.heap.size + 1, 1, none⟩) (by simp) _).setCell (p := ⟨w.heap.size + 1, 2, none⟩) (by simp) _
end Go.Proofs.Ytddeeejfmodgfaa
