/- The reference's numbers: the number of the lowest digits, the number of bytes. Signatures read: sign.From over 65 bytes. The reference's signature of bytes. -/
import Derived.Deep.RegionWith
import Derived.Deep.DeepCutAuto
import Derived.Test.YtefmlbckbhlgdaaRa21
namespace Go.Proofs.Ytefmlbckbhlgdaa
open Go.RowKit Go.Shelf
set_option maxRecDepth 100000
/-- A word of which the highest 't' digits are in. -/
def wd (l : List Int) : Nat → Nat → Int
  | 0, _ => 0
  | t + 1, q => wd l t q * 65536 + dg l (4 * q + 3 - t)
/-- The words of which the digits from the place 'n' on are in. -/
def toW (l : List Int) (n : Nat) : U4 := (wd l (min 4 (4 - n)) 0, wd l (min 4 (8 - n)) 1, wd l (min 4 (12 - n)) 2, wd l (min 4 (16 - n)) 3)
def toU (l : List Int) : U4 := toW l 0
theorem wd_ok {l : List Int} (h : DigOk l) : ∀ (t q : Nat), 0 ≤ wd l t q ∧ wd l t q < 65536 ^ t
  | 0, _ => by simp [wd]
  | t + 1, q => by
    have := wd_ok h t q
    have d := dg_ok h (4 * q + 3 - t)
    rw [wd, Int.pow_succ]
    omega
theorem wd_lt {l : List Int} (h : DigOk l) {t : Nat} (ht : t ≤ 3) (q : Nat) : 0 ≤ wd l t q ∧ wd l t q < 281474976710656 := by
  have h1 := wd_ok h t q
  have : t = 0 ∨ t = 1 ∨ t = 2 ∨ t = 3 := by omega
  rcases this with rfl | rfl | rfl | rfl <;> simp only [Int.reducePow] at h1 <;> omega
theorem wd_four {l : List Int} (h : DigOk l) (q : Nat) : 0 ≤ wd l 4 q ∧ wd l 4 q < 18446744073709551616 := by
  have h1 := wd_ok h 4 q
  simp only [Int.reducePow] at h1
  exact h1
theorem toU_ok {l : List Int} (h : DigOk l) : (toU l).ok := ⟨wd_four h 0, wd_four h 1, wd_four h 2, wd_four h 3⟩
theorem toW_set (l : List Int) (k : Nat) (hk : k < 16) : (u4c (toW l (k + 1))).setIfInBounds (k / 4) (.int .u64 (wd l (4 - k % 4) (k / 4))) = u4c (toW l k) := by
  have : k = 0 ∨ k = 1 ∨ k = 2 ∨ k = 3 ∨ k = 4 ∨ k = 5 ∨ k = 6 ∨ k = 7 ∨ k = 8 ∨ k = 9 ∨ k = 10 ∨ k = 11 ∨ k = 12 ∨ k = 13 ∨ k = 14 ∨ k = 15 := by omega
  rcases this with rfl | rfl | rfl | rfl | rfl | rfl | rfl | rfl | rfl | rfl | rfl | rfl | rfl | rfl | rfl | rfl <;> rfl
theorem toW_get (l : List Int) (k : Nat) (hk : k < 16) : (u4c (toW l (k + 1)))[k / 4]? = some (.int .u64 (wd l (3 - k % 4) (k / 4))) := by
  have : k = 0 ∨ k = 1 ∨ k = 2 ∨ k = 3 ∨ k = 4 ∨ k = 5 ∨ k = 6 ∨ k = 7 ∨ k = 8 ∨ k = 9 ∨ k = 10 ∨ k = 11 ∨ k = 12 ∨ k = 13 ∨ k = 14 ∨ k = 15 := by omega
  rcases this with rfl | rfl | rfl | rfl | rfl | rfl | rfl | rfl | rfl | rfl | rfl | rfl | rfl | rfl | rfl | rfl <;> rfl
theorem wd_step (l : List Int) (k : Nat) : wd l (3 - k % 4) (k / 4) * 65536 + dg l k = wd l (4 - k % 4) (k / 4) := by
  obtain ⟨t, ht⟩ : ∃ t, t = 3 - k % 4 := ⟨_, rfl⟩
  rw [show 4 - k % 4 = t + 1 by omega, ← ht, wd, show 4 * (k / 4) + 3 - t = k by omega]
theorem nval_pos {l : List Int} (h : DigOk l) : 0 ≤ nval l := by
  induction l with
  | nil => exact Int.le_refl _
  | cons x l ih =>
    rw [nval]
    have := h x List.mem_cons_self
    have := ih (fun y hy => h y (List.mem_cons_of_mem _ hy))
    omega
theorem toU_val {l : List Int} (h : DigOk l) (hl : nval l < 115792089237316195423570985008687907853269984665640564039457584007913129639936) : (toU l).val = nval l := by
  have hd : ∀ i, 0 ≤ nval (l.drop i) := fun i => nval_pos (fun x hx => h x (List.mem_of_mem_drop hx))
  have e := fun i => nval_drop l i
  have e0 : nval l = nval (l.drop 0) := rfl
  have e1 := e 0
  have e2 := e 1
  have e3 := e 2
  have e4 := e 3
  have e5 := e 4
  have e6 := e 5
  have e7 := e 6
  have e8 := e 7
  have e9 := e 8
  have e10 := e 9
  have e11 := e 10
  have e12 := e 11
  have e13 := e 12
  have e14 := e 13
  have e15 := e 14
  have e16 := e 15
  have h16 := hd 16
  have b := fun i => dg_ok h i
  have b0 := b 0
  have b1 := b 1
  have b2 := b 2
  have b3 := b 3
  have b4 := b 4
  have b5 := b 5
  have b6 := b 6
  have b7 := b 7
  have b8 := b 8
  have b9 := b 9
  have b10 := b 10
  have b11 := b 11
  have b12 := b 12
  have b13 := b 13
  have b14 := b 14
  have b15 := b 15
  have f : toU l = (wd l 4 0, wd l 4 1, wd l 4 2, wd l 4 3) := rfl
  rw [f]
  simp only [U4.val, wd, Nat.reduceMul, Nat.reduceAdd, Nat.reduceSub] at *
  clear f e hd b h
  generalize dg l 0 = d0 at *
  generalize dg l 1 = d1 at *
  generalize dg l 2 = d2 at *
  generalize dg l 3 = d3 at *
  generalize dg l 4 = d4 at *
  generalize dg l 5 = d5 at *
  generalize dg l 6 = d6 at *
  generalize dg l 7 = d7 at *
  generalize dg l 8 = d8 at *
  generalize dg l 9 = d9 at *
  generalize dg l 10 = d10 at *
  generalize dg l 11 = d11 at *
  generalize dg l 12 = d12 at *
  generalize dg l 13 = d13 at *
  generalize dg l 14 = d14 at *
  generalize dg l 15 = d15 at *
  generalize nval (l.drop 16) = r at *
  omega

/-- What the bytes make as a number, the highest first. -/
def bev (f : Nat → Nat) : Nat → Int
  | 0 => 0
  | i + 1 => 256 * bev f i + f i
theorem bev_ok {f : Nat → Nat} (hf : ∀ k, f k < 256) : ∀ i, 0 ≤ bev f i ∧ bev f i < 256 ^ i
  | 0 => by simp [bev]
  | i + 1 => by
    have := bev_ok hf i
    have := hf i
    rw [bev, Int.pow_succ]
    omega
theorem bev_val (f : Nat → Nat) : (pU f 32).val = bev f 32 := by
  obtain ⟨h0, h1, h2, h3⟩ := pw_full f
  simp only [U4.val, pU, h0, h1, h2, h3, bev]
  omega

set_option maxHeartbeats 4000000 in
theorem to_num (v : Value) (l : List Int) (w : World) (h : RI w v l) (hd : DigOk l) : Calls Try.prog 114 #[v] w fun e w' => e = .returned (u4V (toU l)) ∧ Below w.heap.size w w' := by
  have KD := Lib.hid (fun i W (hb : Below w.heap.size w W) => digit_any v l i W (RI.below h hb (Nat.le_refl _)))
  have R0 := Lib.hid ((RowAt.new w (u4c (0, 0, 0, 0)) 66).alloc (.cells (u4c (0, 0, 0, 0)) 66))
  have R1 := Lib.hid (RowAt.new' (w.alloc (.cells (u4c (0, 0, 0, 0)) 66)) (u4c (0, 0, 0, 0)) 66 (k := w.heap.size + 1) (by simp))
  have HB := Lib.hid (belowA2 w (.cells (u4c (0, 0, 0, 0)) 66) (.cells (u4c (0, 0, 0, 0)) 66))
  have hz : u4c (0, 0, 0, 0) = u4c (toW l 16) := rfl
  have hes : toU l = toW l 0 := rfl
  rw [hes]
  clear hes
  have HS := Lib.hid (fun k hk => toW_set l k hk)
  have HG := Lib.hid (fun k hk => toW_get l k hk)
  have HW := Lib.hid (fun k => wd_step l k)
  have HL := Lib.hid (fun t (ht : t ≤ 3) q => wd_lt hd ht q)
  have HDD := Lib.hid (fun k => dg_ok hd k)
  have HZ := Lib.hid hz
  obtain ⟨p, c, rfl, h1, h2⟩ := RowE.shape encI h
  clear hz h hd h1 h2
  go_enter Try.func114, Try.ntmps114
  go_upto_region 3 with (fail)
  go_loopw [4] (fun s wr => ∃ n : Nat, n ≤ 16 ∧ s = .int .i64 ((n : Int) - 1) ∧ Hid (RowAt wr w.heap.size (u4c (0, 0, 0, 0)) 66) ∧ Hid (RowAt wr (w.heap.size + 1) (u4c (toW l n)) 66) ∧ Hid (Below w.heap.size w wr)) (fun s _ => (intOf s + 1).toNat)
  case atStart => exact ⟨16, by omega, rfl, R0, Lib.hid (HZ.out ▸ R1.out), HB⟩
  case round =>
    clear R0 R1 HB HZ
    obtain ⟨n, hn, rfl, r0, r1, hb⟩ := hrel
    have R0 := Lib.hid r0.out
    have R1 := Lib.hid r1.out
    have HB := Lib.hid hb.out
    clear r0 r1 hb
    cases n with
    | succ k =>
      have hi : ((k + 1 : Nat) : Int) - 1 = (k : Int) := by omega
      have hq : (k : Int).tdiv 4 = ((k / 4 : Nat) : Int) := by rw [Int.tdiv_eq_ediv_of_nonneg (by omega)]; omega
      have hq4 : k / 4 < 4 := by omega
      have hx : wr.cell? ⟨w.heap.size + 1, k / 4, none⟩ = some (.int .u64 (wd l (3 - k % 4) (k / 4))) := by
        rw [R1.out.cell]; exact HG.out k (by omega)
      have hxf := R1.out.frozen (k / 4)
      have hs := HS.out k (by omega)
      have hw := HW.out k
      have hl := HL.out (3 - k % 4) (by omega) (k / 4)
      have hdd := HDD.out k
      have kd := KD.out k
      generalize dg l k = d at *
      generalize wd l (3 - k % 4) (k / 4) = x at *
      generalize wd l (4 - k % 4) (k / 4) = y at *
      have w1 : IntKind.u64.wrap (x * 65536) = x * 65536 := by rw [IntKind.wrap_u64]; omega
      have w2 : IntKind.u64.wrap d = d := by rw [IntKind.wrap_u64]; omega
      have w3 : IntKind.u64.wrap (x * 65536 + d) = y := by rw [IntKind.wrap_u64]; omega
      have rx : ∀ u : Later wr, u.w.cell? ⟨w.heap.size + 1, k / 4, none⟩ = some (.int .u64 x) := fun u => by rw [u.below.cell (block_lt_of_cell hx)]; exact hx
      have HSS := Lib.hid hs
      have KK := Lib.hid kd
      clear hx hs hw hl hdd kd HS HG HW HL HDD
      rw [hi]
      generalize k / 4 = q at *
      go_upto_region 5 with (fail)
      (refine region_later_tail 13 mix ?hB ?_; case hB => kernel_rfl); (simp only [List.take_succ_cons, List.take_zero, List.drop_succ_cons, List.drop_zero]); (iterate 13 (first | go_big_quiet_step ((go_at_call 156; with_reducible exact Later.callSame (KK.out _ (HB.out.trans ((Later.below _).mono HB.out.size))))) | quiet_step ((go_at_call 156; with_reducible exact Later.callSame (KK.out _ (HB.out.trans ((Later.below _).mono HB.out.size))))))); (refine wpQuiet_nil ?_; intro u)
      have hxu := rx u
      have hfu := (R1.out.later u).frozen q
      have R1' := Lib.hid ((R1.out.later u).set q (.int .u64 y) HSS.out)
      have R0' := Lib.hid ((R0.out.later u).other ⟨w.heap.size + 1, q, none⟩ (.int .u64 y) (by simp))
      have HB' := Lib.hid ((HB.out.trans (u.below.mono HB.out.size)).setCell (p := ⟨w.heap.size + 1, q, none⟩) (Nat.le_succ _) (.int .u64 y))
      clear rx hxf R0 R1 HB HSS
      go_wp2
      exact ⟨⟨k, by omega, by simp, R0', R1', HB'⟩, by simp [intOf]⟩
    | zero =>
      generalize hp : toW l 0 = p at *
      obtain ⟨s0, s1, s2, s3⟩ := p
      have HP := Lib.hid hp
      clear hp
      obtain ⟨x0, x1, x2, x3, xf0, xf1, xf2, xf3⟩ := R1.out.c4
      obtain ⟨y0, y1, y2, y3, yf0, yf1, yf2, yf3⟩ := R0.out.c4
      simp only at x0 x1 x2 x3
      go_wp2
      have RZ := (((R0.out.set 0 (.int .u64 s0) rfl).set 1 (.int .u64 s1) rfl).set 2 (.int .u64 s2) rfl).set 3 (.int .u64 s3) rfl
      obtain ⟨k0, k1, k2, k3, _⟩ := RZ.c4
      refine bodyPost_ret (v := u4V (s0, s1, s2, s3)) (by simp [results, Try.results114, go_sem, k0, k1, k2, k3]) rfl ?_
      exact ⟨by rw [HP.out], (((HB.out.setCell (p := ⟨w.heap.size, 0, none⟩) (Nat.le_refl _) _).setCell (p := ⟨w.heap.size, 1, none⟩) (Nat.le_refl _) _).setCell (p := ⟨w.heap.size, 2, none⟩) (Nat.le_refl _) _).setCell (p := ⟨w.heap.size, 3, none⟩) (Nat.le_refl _) _⟩

set_option maxRecDepth 100000 in
set_option maxHeartbeats 1000000 in
theorem sum_len (va vb : Value) (a b : List Int) (w : World) (hA : RI w va a) (hB : RI w vb b) (da : DigOk a) (db : DigOk b) (la : a.length ≤ 1000000) (lb : b.length ≤ 1000000) :
    Calls Try.prog 112 #[va, vb] w fun e w' => ∃ v l, e = .returned v ∧ RI w' v l ∧ DigOk l ∧ nval l = nval a + nval b ∧ l.length ≤ max a.length b.length + 1 ∧ Below w.heap.size w w' := by
  have KA := Lib.hid (fun i W (hb : Below w.heap.size w W) => digit_any va a i W (RI.below hA hb (Nat.le_refl _)))
  have KB := Lib.hid (fun i W (hb : Below w.heap.size w W) => digit_any vb b i W (RI.below hB hb (Nat.le_refl _)))
  obtain ⟨pa, ca, rfl, h1, h2⟩ := RowE.shape encI hA
  obtain ⟨pb, cb, rfl, h3, h4⟩ := RowE.shape encI hB
  have ND := Lib.hid (fun i => nval_drop a i)
  have NE := Lib.hid (fun i => nval_drop b i)
  have DA := Lib.hid (fun i => dg_ok da i)
  have DB := Lib.hid (fun i => dg_ok db i)
  have EA := Lib.hid (fun i (h : a.length ≤ i) => (show nval (a.drop i) = 0 ∧ dg a i = 0 from ⟨by rw [List.drop_eq_nil_of_le h]; rfl, dg_out h⟩))
  have EB := Lib.hid (fun i (h : b.length ≤ i) => (show nval (b.drop i) = 0 ∧ dg b i = 0 from ⟨by rw [List.drop_eq_nil_of_le h]; rfl, dg_out h⟩))
  clear hA hB da db
  have O := Lib.hid (show OI (w.alloc (.cells #[] 3)) w.heap.size (.slice (some ⟨w.heap.size, 0, none⟩) 0 0) [] from OwnE.start encI (Nat.le_refl _))
  have HB1 := Lib.hid (show Below w.heap.size w (w.alloc (.cells #[] 3)) from belowA w _)
  have HR0 : Hid (∀ R : List Int, nval R = 0 + nval (a.drop 0) + nval (b.drop 0) → nval ([] ++ R) = nval a + nval b) := Lib.hid (fun R h => by simpa using h)
  have HD0 : Hid (DigOk []) := Lib.hid (fun x h => by cases h)
  obtain ⟨N, hN1, hN2, hN3⟩ : ∃ N : Nat, a.length ≤ N ∧ b.length ≤ N ∧ N ≤ 1000000 ∧ (N = a.length ∨ N = b.length) := ⟨max a.length b.length, by omega, by omega, by omega, by omega⟩
  go_enter Try.func112, Try.ntmps112
  go_wp2
  go_loopw [5, 6, 7] (fun s5 s6 s7 wr => ∃ (k : Nat) (c : Int) (out : List Int), k ≤ N + 1 ∧ (N < k → c = 0) ∧ 0 ≤ c ∧ c ≤ 1 ∧ out.length = k ∧ s6 = .int .i64 c ∧ s7 = .int .i64 k ∧ Hid (OI wr w.heap.size s5 out) ∧ Hid (DigOk out) ∧ Hid (∀ R : List Int, nval R = c + nval (a.drop k) + nval (b.drop k) → nval (out ++ R) = nval a + nval b) ∧ Hid (Below w.heap.size w wr)) (fun _ _ s _ => (N + 1 : Int).toNat - (intOf s).toNat)
  case atStart => exact ⟨0, 0, [], by omega, by omega, by omega, by omega, rfl, rfl, rfl, O, HD0, HR0, HB1⟩
  case round =>
    clear O HB1 HR0 HD0
    obtain ⟨k, c, out, hk, hkc, hc0, hc1, hol, rfl, rfl, ho, hd, hr, hb⟩ := hrel
    have O := Lib.hid ho.out
    have HD := Lib.hid hd.out
    have HR := Lib.hid hr.out
    have HB := Lib.hid hb.out
    clear ho hd hr hb
    by_cases hgo : k < a.length ∨ k < b.length ∨ c = 1
    · have ka := Lib.hid (KA.out k wr HB.out)
      have kb := Lib.hid (KB.out k wr HB.out)
      have e1 := ND.out k
      have e2 := NE.out k
      have e3 := DA.out k
      have e4 := DB.out k
      have hNk : k ≤ N := by
        rcases hgo with h | h | h
        · omega
        · omega
        · by_cases hh : N < k
          · have := hkc hh; omega
          · omega
      have hlast : N ≤ k → dg a k = 0 ∧ dg b k = 0 := fun h => ⟨(EA.out k (by omega)).2, (EB.out k (by omega)).2⟩
      generalize dg a k = x at *
      generalize dg b k = y at *
      have q1 : IntKind.i64.wrap (x + y) = x + y := by rw [IntKind.wrap_i64]; omega
      have q2 : IntKind.i64.wrap (x + y + c) = x + y + c := by rw [IntKind.wrap_i64]; omega
      have q3 : (x + y + c).tmod 65536 = (x + y + c) % 65536 := Int.tmod_eq_emod_of_nonneg (by omega)
      have q4 : (x + y + c).tdiv 65536 = (x + y + c) / 65536 := Int.tdiv_eq_ediv_of_nonneg (by omega)
      have hcar : 0 ≤ (x + y + c) / 65536 ∧ (x + y + c) / 65536 ≤ 1 := by omega
      have hdg : 0 ≤ (x + y + c) % 65536 ∧ (x + y + c) % 65536 < 65536 := by omega
      have hsum : (x + y + c) % 65536 + 65536 * ((x + y + c) / 65536) = x + y + c := by omega
      have hlc : N < k + 1 → (x + y + c) / 65536 = 0 := fun h => by have := hlast (by omega); omega
      have HR2 : Hid (∀ R : List Int, nval R = (x + y + c) / 65536 + nval (a.drop (k + 1)) + nval (b.drop (k + 1)) → nval ((out ++ [(x + y + c) % 65536]) ++ R) = nval a + nval b) := Lib.hid (fun R h => by
        rw [List.append_assoc]
        refine HR.out _ ?_
        rw [List.singleton_append, nval]
        omega)
      have HD2 : Hid (DigOk (out ++ [(x + y + c) % 65536])) := Lib.hid (fun z hz => by
        rcases List.mem_append.1 hz with hz | hz
        · exact HD.out z hz
        · rw [List.mem_singleton] at hz
          subst hz
          exact hdg)
      generalize (x + y + c) % 65536 = d at *
      generalize (x + y + c) / 65536 = c' at *
      have HLC := Lib.hid hlc
      clear e1 e2 e3 e4 hlast hkc hsum hlc HR HD
      by_cases h1' : k < a.length
      rotate_left
      by_cases h2' : k < b.length
      rotate_left
      obtain rfl : c = 1 := by omega
      rotate_left
      all_goals
        clear hgo
        go_upto_region 8 with (first | (go_at_call 156; first | (with_reducible refine ka.out.mono ?_; rintro e w1 ⟨rfl, rfl⟩) | (with_reducible refine kb.out.mono ?_; rintro e w1 ⟨rfl, rfl⟩)) | (at_builtin; refine wpList_append_rowE encI Try.underlying169 info_int rfl rfl _ _ rfl w.heap.size _ out rfl (O.out.below ((Below.refl _ _).alloc (Nat.le_refl _) _) (Nat.le_refl _)) _ [d] rfl (RowE.lit encI (RowAt.new wr #[.int .i64 d] _) d rfl) (by unfold maxLen; simp; omega) (by simp; omega) (by have := HB.out.size; simp; omega) ?_))
        intro v' w' ho hb _ _
        have HO := Lib.hid (show OI w' w.heap.size v' (out ++ [d]) from ho)
        have HB2 := Lib.hid (hb _ (HB.out.alloc HB.out.size _))
        clear ho hb
        go_wp2
        exact ⟨⟨k + 1, c', out ++ [d], by omega, HLC.out, hcar.1, hcar.2, by simp [hol], rfl, by simp, HO, HD2, HR2, HB2⟩, by simp [intOf]; omega⟩
    · have h1' : ¬ k < a.length := by omega
      have h2' : ¬ k < b.length := by omega
      obtain rfl : c = 0 := by omega
      have hv := Lib.hid (HR.out [] (by rw [(EA.out k (by omega)).1, (EB.out k (by omega)).1]; rfl))
      rw [List.append_nil] at hv
      clear hgo
      go_wp2
      go_ret
      exact ⟨_, rfl, out, OwnE.row encI O.out, HD.out, hv.out, by omega, HB.out⟩

theorem chain2 {w W w' : World} (h1 : Below w.heap.size w W) (h2 : Below W.heap.size W w') : Below w.heap.size w w' := h1.trans (h2.mono h1.size)
theorem toU_from {l : List Int} {f : Nat → Nat} (hf : ∀ k, f k < 256) (h : DigOk l) (hl : nval l = bev f 32) : toU l = pU f 32 := by
  have hb := (bev_ok hf 32).2
  simp only [Int.reducePow] at hb
  have h1 := toU_val h (by omega)
  have h2 := bev_val f
  exact val_inj (toU_ok h) (pU_ok f hf (Nat.le_refl _)) (by omega)

set_option maxHeartbeats 4000000 in
theorem rfromU_any (s : ByteArray) (w : World) (hs : s.size = 32) : Calls Try.prog 63 #[.string s] w fun e w' => e = .returned (u4V (fromU s)) ∧ Below w.heap.size w w' := by
  have HFU : Hid (∀ l, DigOk l → nval l = bev (byF s) 32 → toU l = fromU s) := Lib.hid (fun l h hl => toU_from (byF_lt s) h hl)
  have HF := Lib.hid (fun k => byF_lt s k)
  have HG : Hid (∀ k (h : k < s.size), s[k].toNat = byF s k) := Lib.hid (fun k h => by rw [byF, sgetD h])
  have HV := Lib.hid (fun i => bev_ok (byF_lt s) i)
  have HE : Hid (∀ i, bev (byF s) (i + 1) = 256 * bev (byF s) i + (byF s i : Nat)) := Lib.hid (fun i => rfl)
  have HZ : Hid (bev (byF s) 0 = 0) := Lib.hid rfl
  generalize byF s = f at *
  generalize fromU s = res at *
  have R0 := Lib.hid ((RowAt.new w (u4c (0, 0, 0, 0)) 66).alloc (.cells #[] 3))
  have hsz : (w.alloc (.cells (u4c (0, 0, 0, 0)) 66)).heap.size = w.heap.size + 1 := by simp
  have O0 : Hid (RI ((w.alloc (.cells (u4c (0, 0, 0, 0)) 66)).alloc (.cells #[] 3)) (.slice (some ⟨w.heap.size + 1, 0, none⟩) 0 0) []) := Lib.hid (by
    have := OwnE.row encI (OwnE.start encI (T := 3) (w := w.alloc (.cells (u4c (0, 0, 0, 0)) 66)) (base := w.heap.size + 1) (by omega))
    rwa [hsz] at this)
  have HB := Lib.hid (belowA2 w (.cells (u4c (0, 0, 0, 0)) 66) (.cells #[] 3))
  clear hsz
  go_enter Try.func63, Try.ntmps63
  go_upto_region 3 with (fail)
  generalize (w.alloc (.cells (u4c (0, 0, 0, 0)) 66)).alloc (.cells #[] 3) = W0 at *
  go_loopw [3, 4] (fun s3 s4 wr => ∃ (i : Nat) (l : List Int), i ≤ 32 ∧ s4 = .int .i64 i ∧ Hid (RI wr s3 l) ∧ Hid (DigOk l) ∧ Hid (nval l = bev f i) ∧ Hid (l.length ≤ 3 * i) ∧ Hid (RowAt wr w.heap.size (u4c (0, 0, 0, 0)) 66) ∧ Hid (Below w.heap.size w wr)) (fun _ s _ => (32 - intOf s).toNat)
  case atStart => exact ⟨0, [], by omega, rfl, O0, Lib.hid (fun x h => by cases h), Lib.hid HZ.out.symm, Lib.hid (Nat.le_refl _), R0, HB⟩
  case round =>
    clear R0 HB O0 HZ
    obtain ⟨i, l, hi, rfl, o0, d0, v0, l0, r0, hb⟩ := hrel
    have O := Lib.hid o0.out
    have HD := Lib.hid d0.out
    have HVV := Lib.hid v0.out
    have HLL := Lib.hid l0.out
    have R0 := Lib.hid r0.out
    have HB := Lib.hid hb.out
    clear o0 d0 v0 l0 r0 hb
    by_cases hlt : i < 32
    · have hg := HG.out i (by omega)
      have hf := HF.out i
      have he := HE.out i
      generalize f i = b at *
      go_upto_region 5 with (fail)
      have KT : Hid (∀ W vb, Below wr.heap.size wr W → RI W vb [256] → Calls Try.prog 113 #[u3, vb] W fun e w' => ∃ v l', e = .returned v ∧ RI w' v l' ∧ DigOk l' ∧ nval l' = 256 * nval l ∧ l'.length = l.length + 2 ∧ Below W.heap.size W w') := Lib.hid (fun W vb hb hvb => times_num u3 vb l W (RI.below O.out hb (Nat.le_refl _)) hvb HD.out (by have := HLL.out; omega))
      have HDB : Hid (DigOk [(b : Int)]) := Lib.hid (fun x hx => by rw [List.mem_singleton] at hx; subst hx; omega)
      have hwb : IntKind.i64.wrap (b : Int) = (b : Int) := by rw [IntKind.wrap_i64]; omega
      go_region_with (first
        | (go_at_call 113; refine (KT.out _ _ (by first | exact ((Below.refl _ _).alloc (Nat.le_refl _) _).drew | exact (((Below.refl _ _).alloc (Nat.le_refl _) _).alloc (by simp) _).drew) (by first | exact RowE.lit encI (RowAt.new wr #[.int .i64 256] _) 256 rfl | exact RowE.lit encI ((RowAt.new wr #[.int .i64 256] _).alloc _) 256 rfl | exact RowE.lit encI (RowAt.new' (wr.alloc _) #[.int .i64 256] _ (k := wr.heap.size + 1) (by simp)) 256 rfl)).mono ?_; rintro e wt ⟨v, lt, rfl, ht, hdt, hvt, hlt, hbt⟩; have HT := Lib.hid ht; have HDT := Lib.hid hdt; have HVT := Lib.hid hvt; have HLT := Lib.hid hlt; have HBT := Lib.hid hbt; clear ht hdt hvt hlt hbt)
        | (go_at_call 112; refine (sum_len _ _ lt [(b : Int)] _ (by first | exact HT.out | exact RI.below HT.out (belowA wt _) (Nat.le_refl _)) (by first | exact RowE.lit encI (RowAt.new wt #[.int .i64 (b : Int)] _) (b : Int) rfl | exact RowE.lit encI (RowAt.belowS (RowAt.new' (wr.alloc _) #[.int .i64 (b : Int)] _ (k := wr.heap.size + 1) (by simp)).drew HBT.out) (b : Int) rfl | exact RowE.lit encI (RowAt.belowS ((RowAt.new wr #[.int .i64 (b : Int)] _).alloc _).drew HBT.out) (b : Int) rfl) HDT.out HDB.out (by have := HLT.out; have := HLL.out; omega) (by simp)).mono ?_; rintro e ws ⟨v2, l2, rfl, hs2, hd2, hv2, hl2, hb2⟩; have HS2 := Lib.hid hs2; have HD2 := Lib.hid hd2; have HV2 := Lib.hid hv2; have HL2 := Lib.hid hl2; have HB2 := Lib.hid hb2; clear hs2 hd2 hv2 hl2 hb2))
      all_goals
        have HBW : Hid (Below wr.heap.size wr ws) := Lib.hid (by
          first
            | exact chain2 (chain2 (((Below.refl _ _).alloc (Nat.le_refl _) _).drew) HBT.out) (chain2 (belowA wt _) HB2.out)
            | exact chain2 (chain2 ((((Below.refl _ _).alloc (Nat.le_refl _) _).alloc (by simp) _).drew) HBT.out) HB2.out)
        have HR3 := Lib.hid (R0.out.belowS HBW.out)
        have HB3 := Lib.hid (HB.out.trans (HBW.out.mono HB.out.size))
        have HV3 : Hid (nval l2 = bev f (i + 1)) := Lib.hid (by
          have h1 := HV2.out
          have h2 := HVT.out
          have h3 := HVV.out
          have h4 : nval [(b : Int)] = b := by simp [nval]
          omega)
        have HL3 : Hid (l2.length ≤ 3 * (i + 1)) := Lib.hid (by
          have h1 := HL2.out
          have h2 := HLT.out
          have h3 := HLL.out
          simp only [List.length_singleton] at h1
          omega)
        clear HT HDT HVT HLT HBT HV2 HL2 HB2 HBW
        go_wp2
        exact ⟨⟨i + 1, l2, by omega, by simp, HS2, HD2, HV3, HL3, HR3, HB3⟩, by simp [intOf]; omega⟩
    · obtain rfl : i = 32 := by omega
      have KU := Lib.hid (to_num u3 l wr O.out HD.out)
      rw [HFU.out l HD.out HVV.out] at KU
      obtain ⟨s0, s1, s2, s3⟩ := res
      go_wp2_with (go_at_call 114; refine KU.out.mono ?_; rintro e w5 ⟨rfl, hb⟩; replace R0 := Lib.hid (R0.out.belowS hb); replace HB := Lib.hid (HB.out.trans (hb.mono HB.out.size)); clear hb; obtain ⟨y0, y1, y2, y3, yf0, yf1, yf2, yf3⟩ := R0.out.c4)
      have RZ := (((R0.out.set 0 (.int .u64 s0) rfl).set 1 (.int .u64 s1) rfl).set 2 (.int .u64 s2) rfl).set 3 (.int .u64 s3) rfl
      obtain ⟨k0, k1, k2, k3, _⟩ := RZ.c4
      refine bodyPost_ret (v := u4V (s0, s1, s2, s3)) (by simp [results, Try.results63, go_sem, k0, k1, k2, k3]) rfl ?_
      exact ⟨rfl, (((HB.out.setCell (p := ⟨w.heap.size, 0, none⟩) (Nat.le_refl _) _).setCell (p := ⟨w.heap.size, 1, none⟩) (Nat.le_refl _) _).setCell (p := ⟨w.heap.size, 2, none⟩) (Nat.le_refl _) _).setCell (p := ⟨w.heap.size, 3, none⟩) (Nat.le_refl _) _⟩
end Go.Proofs.Ytefmlbckbhlgdaa
namespace Go.Proofs.Ytefmlbckbhlgdaa
open Go.RowKit Go.Shelf
set_option maxRecDepth 100000
def zU : U4 := (0, 0, 0, 0)
def zSg : Sg := (zU, zU, 0)
/-- What sign.From answers. -/
def fromS (s : ByteArray) : Sg × Int := if sigOk (sgFrom s) = true then (sgFrom s, 0) else (zSg, 4)

theorem RowAt.set9a {w : World} {k : Nat} {u0 u1 u2 u3 u4 u5 u6 u7 u8 : Value} {T : TypeId} (h : RowAt w k #[u0, u1, u2, u3, u4, u5, u6, u7, u8] T) (v0 v1 v2 v3 : Value) : RowAt ((((w.setCell ⟨k, 0, none⟩ (v0)).setCell ⟨k, 1, none⟩ (v1)).setCell ⟨k, 2, none⟩ (v2)).setCell ⟨k, 3, none⟩ (v3)) k #[v0, v1, v2, v3, u4, u5, u6, u7, u8] T := (RowAt.set (cs' := #[v0, v1, v2, v3, u4, u5, u6, u7, u8]) (RowAt.set (cs' := #[v0, v1, v2, u3, u4, u5, u6, u7, u8]) (RowAt.set (cs' := #[v0, v1, u2, u3, u4, u5, u6, u7, u8]) (RowAt.set (cs' := #[v0, u1, u2, u3, u4, u5, u6, u7, u8]) h 0 v0 rfl) 1 v1 rfl) 2 v2 rfl) 3 v3 rfl)
theorem RowAt.set9b {w : World} {k : Nat} {u0 u1 u2 u3 u4 u5 u6 u7 u8 : Value} {T : TypeId} (h : RowAt w k #[u0, u1, u2, u3, u4, u5, u6, u7, u8] T) (v4 v5 v6 v7 : Value) : RowAt ((((w.setCell ⟨k, 4, none⟩ (v4)).setCell ⟨k, 5, none⟩ (v5)).setCell ⟨k, 6, none⟩ (v6)).setCell ⟨k, 7, none⟩ (v7)) k #[u0, u1, u2, u3, v4, v5, v6, v7, u8] T := (RowAt.set (cs' := #[u0, u1, u2, u3, v4, v5, v6, v7, u8]) (RowAt.set (cs' := #[u0, u1, u2, u3, v4, v5, v6, u7, u8]) (RowAt.set (cs' := #[u0, u1, u2, u3, v4, v5, u6, u7, u8]) (RowAt.set (cs' := #[u0, u1, u2, u3, v4, u5, u6, u7, u8]) h 4 v4 rfl) 5 v5 rfl) 6 v6 rfl) 7 v7 rfl)
theorem RowAt.set9c {w : World} {k : Nat} {u0 u1 u2 u3 u4 u5 u6 u7 u8 : Value} {T : TypeId} (h : RowAt w k #[u0, u1, u2, u3, u4, u5, u6, u7, u8] T) (v8 : Value) : RowAt (w.setCell ⟨k, 8, none⟩ (v8)) k #[u0, u1, u2, u3, u4, u5, u6, u7, v8] T := (RowAt.set (cs' := #[u0, u1, u2, u3, u4, u5, u6, u7, v8]) h 8 v8 rfl)


set_option maxHeartbeats 8000000 in
theorem fromS_any (s : ByteArray) (w : World) (hs : s.size = 65) : Calls Try.prog 25 #[.string s] w fun e w' => e = .returned (.tuple #[sgV (fromS s).1, .int .i64 (fromS s).2]) ∧ Below w.heap.size w w' := by
  have K1 := Lib.hid (fun W => fromU_any (s.extract 0 32) W (by rw [extract_size (by omega)]))
  have K2 := Lib.hid (fun W => fromU_any (s.extract 32 64) W (by rw [extract_size (by omega)]))
  have HV : Hid (∀ h : 64 < s.size, ((s[64].toNat : Nat) : Int) = (sgFrom s).2.2) := Lib.hid (fun h => by unfold sgFrom; simp only [sgetD h])
  have h0 : (sgFrom s).1 = fromU (s.extract 0 32) := rfl
  have h1 : (sgFrom s).2.1 = fromU (s.extract 32 64) := rfl
  rw [← h0] at K1
  rw [← h1] at K2
  clear h0 h1
  have HK := Lib.hid (fun W => sigRight_any (sgFrom s) (sgFrom_ok s) W)
  have HR : Hid (∀ b, sigOk (sgFrom s) = b → fromS s = if b = true then (sgFrom s, 0) else (zSg, 4)) := Lib.hid (fun b e => by unfold fromS; rw [e])
  have hg64 : 64 < s.size := by omega
  have hv := HV.out hg64
  have R0 := Lib.hid ((RowAt.new w #[.int .u64 0, .int .u64 0, .int .u64 0, .int .u64 0, .int .u64 0, .int .u64 0, .int .u64 0, .int .u64 0, .int .i64 0] 68).alloc (.cells #[.int .u64 0, .int .u64 0, .int .u64 0, .int .u64 0, .int .u64 0, .int .u64 0, .int .u64 0, .int .u64 0, .int .i64 0] 68))
  have R1 := Lib.hid (RowAt.new' (w.alloc (.cells #[.int .u64 0, .int .u64 0, .int .u64 0, .int .u64 0, .int .u64 0, .int .u64 0, .int .u64 0, .int .u64 0, .int .i64 0] 68)) #[.int .u64 0, .int .u64 0, .int .u64 0, .int .u64 0, .int .u64 0, .int .u64 0, .int .u64 0, .int .u64 0, .int .i64 0] 68 (k := w.heap.size + 1) (by simp))
  have HB := Lib.hid (belowA2 w (.cells #[.int .u64 0, .int .u64 0, .int .u64 0, .int .u64 0, .int .u64 0, .int .u64 0, .int .u64 0, .int .u64 0, .int .i64 0] 68) (.cells #[.int .u64 0, .int .u64 0, .int .u64 0, .int .u64 0, .int .u64 0, .int .u64 0, .int .u64 0, .int .u64 0, .int .i64 0] 68))
  generalize sgFrom s = g at *
  obtain ⟨⟨r0, r1, r2, r3⟩, ⟨s0, s1, s2, s3⟩, v⟩ := g
  simp only at hv K1 K2
  have hv256 : (s[64].toNat : Int) < 256 := by have := s[64].toNat_lt; omega
  generalize hvn : s[64].toNat = vn at *
  subst hv
  have hwr : wrap64 (vn : Int) = (vn : Int) := by
    unfold wrap64
    omega
  have HVN := Lib.hid hvn
  have HWR := Lib.hid hwr
  clear hvn hwr hv256
  generalize sigOk ((r0, r1, r2, r3), (s0, s1, s2, s3), (vn : Int)) = b at *
  have HE := Lib.hid (HR.out b rfl)
  clear HR HV
  generalize fromS s = res at *
  dsimp only [u4V, u4c] at K1 K2
  dsimp only [sgV, sgc] at HK
  go_enter Try.func25, Try.ntmps25
  obtain ⟨x0, x1, x2, x3, x4, x5, x6, x7, x8⟩ := R1.out.c9
  have xf0 := R1.out.frozen 0
  have xf1 := R1.out.frozen 1
  have xf2 := R1.out.frozen 2
  have xf3 := R1.out.frozen 3
  have xf4 := R1.out.frozen 4
  have xf5 := R1.out.frozen 5
  have xf6 := R1.out.frozen 6
  have xf7 := R1.out.frozen 7
  have xf8 := R1.out.frozen 8
  go_upto_region 5 with (go_at_call 55; ((with_reducible refine (K1.out _).mono ?_)); rintro e w1 ⟨rfl, hb⟩; (replace R0 := Lib.hid (R0.out.belowS hb); replace R1 := Lib.hid (R1.out.belowS hb); replace HB := Lib.hid (HB.out.trans (hb.mono HB.out.size)); clear hb); clear x0 x1 x2 x3 x4 x5 x6 x7 x8 xf0 xf1 xf2 xf3 xf4 xf5 xf6 xf7 xf8; obtain ⟨x0, x1, x2, x3, x4, x5, x6, x7, x8⟩ := R1.out.c9; have xf0 := R1.out.frozen 0; have xf1 := R1.out.frozen 1; have xf2 := R1.out.frozen 2; have xf3 := R1.out.frozen 3; have xf4 := R1.out.frozen 4; have xf5 := R1.out.frozen 5; have xf6 := R1.out.frozen 6; have xf7 := R1.out.frozen 7; have xf8 := R1.out.frozen 8)
  clear x0 x1 x2 x3 x4 x5 x6 x7 x8 xf0 xf1 xf2 xf3 xf4 xf5 xf6 xf7 xf8
  replace R0 := Lib.hid ((((R0.out.other ⟨w.heap.size + 1, 0, none⟩ (.int .u64 r0) (by simp)).other ⟨w.heap.size + 1, 1, none⟩ (.int .u64 r1) (by simp)).other ⟨w.heap.size + 1, 2, none⟩ (.int .u64 r2) (by simp)).other ⟨w.heap.size + 1, 3, none⟩ (.int .u64 r3) (by simp))
  replace R1 := Lib.hid (R1.out.set9a (.int .u64 r0) (.int .u64 r1) (.int .u64 r2) (.int .u64 r3))
  replace HB := Lib.hid ((((HB.out.setCell (p := ⟨w.heap.size + 1, 0, none⟩) (Nat.le_succ _) (.int .u64 r0)).setCell (p := ⟨w.heap.size + 1, 1, none⟩) (Nat.le_succ _) (.int .u64 r1)).setCell (p := ⟨w.heap.size + 1, 2, none⟩) (Nat.le_succ _) (.int .u64 r2)).setCell (p := ⟨w.heap.size + 1, 3, none⟩) (Nat.le_succ _) (.int .u64 r3))
  generalize ((((w1.setCell ⟨w.heap.size + 1, 0, none⟩ (.int .u64 r0)).setCell ⟨w.heap.size + 1, 1, none⟩ (.int .u64 r1)).setCell ⟨w.heap.size + 1, 2, none⟩ (.int .u64 r2)).setCell ⟨w.heap.size + 1, 3, none⟩ (.int .u64 r3)) = W5 at *
  obtain ⟨x0, x1, x2, x3, x4, x5, x6, x7, x8⟩ := R1.out.c9
  have xf0 := R1.out.frozen 0
  have xf1 := R1.out.frozen 1
  have xf2 := R1.out.frozen 2
  have xf3 := R1.out.frozen 3
  have xf4 := R1.out.frozen 4
  have xf5 := R1.out.frozen 5
  have xf6 := R1.out.frozen 6
  have xf7 := R1.out.frozen 7
  have xf8 := R1.out.frozen 8
  go_upto_region 6 with (go_at_call 55; ((with_reducible refine (K2.out _).mono ?_)); rintro e w2 ⟨rfl, hb⟩; (replace R0 := Lib.hid (R0.out.belowS hb); replace R1 := Lib.hid (R1.out.belowS hb); replace HB := Lib.hid (HB.out.trans (hb.mono HB.out.size)); clear hb); clear x0 x1 x2 x3 x4 x5 x6 x7 x8 xf0 xf1 xf2 xf3 xf4 xf5 xf6 xf7 xf8; obtain ⟨x0, x1, x2, x3, x4, x5, x6, x7, x8⟩ := R1.out.c9; have xf0 := R1.out.frozen 0; have xf1 := R1.out.frozen 1; have xf2 := R1.out.frozen 2; have xf3 := R1.out.frozen 3; have xf4 := R1.out.frozen 4; have xf5 := R1.out.frozen 5; have xf6 := R1.out.frozen 6; have xf7 := R1.out.frozen 7; have xf8 := R1.out.frozen 8)
  clear x0 x1 x2 x3 x4 x5 x6 x7 x8 xf0 xf1 xf2 xf3 xf4 xf5 xf6 xf7 xf8
  replace R0 := Lib.hid ((((R0.out.other ⟨w.heap.size + 1, 4, none⟩ (.int .u64 s0) (by simp)).other ⟨w.heap.size + 1, 5, none⟩ (.int .u64 s1) (by simp)).other ⟨w.heap.size + 1, 6, none⟩ (.int .u64 s2) (by simp)).other ⟨w.heap.size + 1, 7, none⟩ (.int .u64 s3) (by simp))
  replace R1 := Lib.hid (R1.out.set9b (.int .u64 s0) (.int .u64 s1) (.int .u64 s2) (.int .u64 s3))
  replace HB := Lib.hid ((((HB.out.setCell (p := ⟨w.heap.size + 1, 4, none⟩) (Nat.le_succ _) (.int .u64 s0)).setCell (p := ⟨w.heap.size + 1, 5, none⟩) (Nat.le_succ _) (.int .u64 s1)).setCell (p := ⟨w.heap.size + 1, 6, none⟩) (Nat.le_succ _) (.int .u64 s2)).setCell (p := ⟨w.heap.size + 1, 7, none⟩) (Nat.le_succ _) (.int .u64 s3))
  generalize ((((w2.setCell ⟨w.heap.size + 1, 4, none⟩ (.int .u64 s0)).setCell ⟨w.heap.size + 1, 5, none⟩ (.int .u64 s1)).setCell ⟨w.heap.size + 1, 6, none⟩ (.int .u64 s2)).setCell ⟨w.heap.size + 1, 7, none⟩ (.int .u64 s3)) = W6 at *
  have hvn := HVN.out
  have hwr := HWR.out
  obtain ⟨x0, x1, x2, x3, x4, x5, x6, x7, x8⟩ := R1.out.c9
  have xf0 := R1.out.frozen 0
  have xf1 := R1.out.frozen 1
  have xf2 := R1.out.frozen 2
  have xf3 := R1.out.frozen 3
  have xf4 := R1.out.frozen 4
  have xf5 := R1.out.frozen 5
  have xf6 := R1.out.frozen 6
  have xf7 := R1.out.frozen 7
  have xf8 := R1.out.frozen 8
  go_upto_region 7 with (fail)
  clear hvn hwr x0 x1 x2 x3 x4 x5 x6 x7 x8 xf0 xf1 xf2 xf3 xf4 xf5 xf6 xf7 xf8
  replace R0 := Lib.hid (R0.out.other ⟨w.heap.size + 1, 8, none⟩ (.int .i64 vn) (by simp))
  replace R1 := Lib.hid (R1.out.set9c (.int .i64 vn))
  replace HB := Lib.hid (HB.out.setCell (p := ⟨w.heap.size + 1, 8, none⟩) (Nat.le_succ _) (.int .i64 vn))
  generalize (W6.setCell ⟨w.heap.size + 1, 8, none⟩ (.int .i64 vn)) = W7 at *
  obtain ⟨x0, x1, x2, x3, x4, x5, x6, x7, x8⟩ := R1.out.c9
  cases b with
  | false =>
    go_upto_region 8 with (go_at_call 56; ((with_reducible refine (HK.out _).mono ?_)); rintro e w3 ⟨rfl, hb⟩; (replace R0 := Lib.hid (R0.out.belowS hb); replace R1 := Lib.hid (R1.out.belowS hb); replace HB := Lib.hid (HB.out.trans (hb.mono HB.out.size)); clear hb); clear x0 x1 x2 x3 x4 x5 x6 x7 x8)
    clear HK K1 K2 R1
    obtain ⟨y0, y1, y2, y3, y4, y5, y6, y7, y8⟩ := R0.out.c9
    have yf0 := R0.out.frozen 0
    have yf1 := R0.out.frozen 1
    have yf2 := R0.out.frozen 2
    have yf3 := R0.out.frozen 3
    have yf4 := R0.out.frozen 4
    have yf5 := R0.out.frozen 5
    have yf6 := R0.out.frozen 6
    have yf7 := R0.out.frozen 7
    have yf8 := R0.out.frozen 8
    go_wp2
    have RZ := Lib.hid ((((R0.out.set9a (.int .u64 0) (.int .u64 0) (.int .u64 0) (.int .u64 0)).set9b (.int .u64 0) (.int .u64 0) (.int .u64 0) (.int .u64 0)).set9c (.int .i64 0)))
    have HZ := Lib.hid (((((((((HB.out.setCell (p := ⟨w.heap.size, 0, none⟩) (Nat.le_refl _) (.int .u64 0)).setCell (p := ⟨w.heap.size, 1, none⟩) (Nat.le_refl _) (.int .u64 0)).setCell (p := ⟨w.heap.size, 2, none⟩) (Nat.le_refl _) (.int .u64 0)).setCell (p := ⟨w.heap.size, 3, none⟩) (Nat.le_refl _) (.int .u64 0)).setCell (p := ⟨w.heap.size, 4, none⟩) (Nat.le_refl _) (.int .u64 0)).setCell (p := ⟨w.heap.size, 5, none⟩) (Nat.le_refl _) (.int .u64 0)).setCell (p := ⟨w.heap.size, 6, none⟩) (Nat.le_refl _) (.int .u64 0)).setCell (p := ⟨w.heap.size, 7, none⟩) (Nat.le_refl _) (.int .u64 0)).setCell (p := ⟨w.heap.size, 8, none⟩) (Nat.le_refl _) (.int .i64 0))
    generalize (((((((((w3.setCell ⟨w.heap.size, 0, none⟩ (.int .u64 0)).setCell ⟨w.heap.size, 1, none⟩ (.int .u64 0)).setCell ⟨w.heap.size, 2, none⟩ (.int .u64 0)).setCell ⟨w.heap.size, 3, none⟩ (.int .u64 0)).setCell ⟨w.heap.size, 4, none⟩ (.int .u64 0)).setCell ⟨w.heap.size, 5, none⟩ (.int .u64 0)).setCell ⟨w.heap.size, 6, none⟩ (.int .u64 0)).setCell ⟨w.heap.size, 7, none⟩ (.int .u64 0)).setCell ⟨w.heap.size, 8, none⟩ (.int .i64 0)) = WZ at *
    clear y0 y1 y2 y3 y4 y5 y6 y7 y8 yf0 yf1 yf2 yf3 yf4 yf5 yf6 yf7 yf8 R0 HB HVN
    obtain ⟨k0, k1, k2, k3, k4, k5, k6, k7, k8⟩ := RZ.out.c9
    refine bodyPost_ret (v := .tuple #[.agg #[.int .u64 0, .int .u64 0, .int .u64 0, .int .u64 0, .int .u64 0, .int .u64 0, .int .u64 0, .int .u64 0, .int .i64 0], .int .i64 4]) (by simp [results, Try.results25, go_sem, k0, k1, k2, k3, k4, k5, k6, k7, k8]) rfl ?_
    exact ⟨by rw [HE.out]; rfl, HZ.out⟩
  | true =>
    go_upto_region 9 with (go_at_call 56; ((with_reducible refine (HK.out _).mono ?_)); rintro e w3 ⟨rfl, hb⟩; (replace R0 := Lib.hid (R0.out.belowS hb); replace R1 := Lib.hid (R1.out.belowS hb); replace HB := Lib.hid (HB.out.trans (hb.mono HB.out.size)); clear hb); clear x0 x1 x2 x3 x4 x5 x6 x7 x8)
    clear HK K1 K2
    obtain ⟨y0, y1, y2, y3, y4, y5, y6, y7, y8⟩ := R0.out.c9
    have yf0 := R0.out.frozen 0
    have yf1 := R0.out.frozen 1
    have yf2 := R0.out.frozen 2
    have yf3 := R0.out.frozen 3
    have yf4 := R0.out.frozen 4
    have yf5 := R0.out.frozen 5
    have yf6 := R0.out.frozen 6
    have yf7 := R0.out.frozen 7
    have yf8 := R0.out.frozen 8
    obtain ⟨x0, x1, x2, x3, x4, x5, x6, x7, x8⟩ := R1.out.c9
    go_wp2
    have RZ := Lib.hid ((((R0.out.set9a (.int .u64 r0) (.int .u64 r1) (.int .u64 r2) (.int .u64 r3)).set9b (.int .u64 s0) (.int .u64 s1) (.int .u64 s2) (.int .u64 s3)).set9c (.int .i64 vn)))
    have HZ := Lib.hid (((((((((HB.out.setCell (p := ⟨w.heap.size, 0, none⟩) (Nat.le_refl _) (.int .u64 r0)).setCell (p := ⟨w.heap.size, 1, none⟩) (Nat.le_refl _) (.int .u64 r1)).setCell (p := ⟨w.heap.size, 2, none⟩) (Nat.le_refl _) (.int .u64 r2)).setCell (p := ⟨w.heap.size, 3, none⟩) (Nat.le_refl _) (.int .u64 r3)).setCell (p := ⟨w.heap.size, 4, none⟩) (Nat.le_refl _) (.int .u64 s0)).setCell (p := ⟨w.heap.size, 5, none⟩) (Nat.le_refl _) (.int .u64 s1)).setCell (p := ⟨w.heap.size, 6, none⟩) (Nat.le_refl _) (.int .u64 s2)).setCell (p := ⟨w.heap.size, 7, none⟩) (Nat.le_refl _) (.int .u64 s3)).setCell (p := ⟨w.heap.size, 8, none⟩) (Nat.le_refl _) (.int .i64 vn))
    generalize (((((((((w3.setCell ⟨w.heap.size, 0, none⟩ (.int .u64 r0)).setCell ⟨w.heap.size, 1, none⟩ (.int .u64 r1)).setCell ⟨w.heap.size, 2, none⟩ (.int .u64 r2)).setCell ⟨w.heap.size, 3, none⟩ (.int .u64 r3)).setCell ⟨w.heap.size, 4, none⟩ (.int .u64 s0)).setCell ⟨w.heap.size, 5, none⟩ (.int .u64 s1)).setCell ⟨w.heap.size, 6, none⟩ (.int .u64 s2)).setCell ⟨w.heap.size, 7, none⟩ (.int .u64 s3)).setCell ⟨w.heap.size, 8, none⟩ (.int .i64 vn)) = WZ at *
    clear y0 y1 y2 y3 y4 y5 y6 y7 y8 yf0 yf1 yf2 yf3 yf4 yf5 yf6 yf7 yf8 x0 x1 x2 x3 x4 x5 x6 x7 x8 R0 R1 HB HVN
    obtain ⟨k0, k1, k2, k3, k4, k5, k6, k7, k8⟩ := RZ.out.c9
    refine bodyPost_ret (v := .tuple #[.agg #[.int .u64 r0, .int .u64 r1, .int .u64 r2, .int .u64 r3, .int .u64 s0, .int .u64 s1, .int .u64 s2, .int .u64 s3, .int .i64 vn], .int .i64 0]) (by simp [results, Try.results25, go_sem, k0, k1, k2, k3, k4, k5, k6, k7, k8]) rfl ?_
    exact ⟨by rw [HE.out]; rfl, HZ.out⟩
end Go.Proofs.Ytefmlbckbhlgdaa
namespace Go.Proofs.Ytefmlbckbhlgdaa
open Go.RowKit Go.Shelf
set_option maxRecDepth 100000
theorem chain3 {w W w' : World} (h1 : Below w.heap.size w W) (h2 : Below W.heap.size W w') : Below w.heap.size w w' := h1.trans (h2.mono h1.size)
theorem RowAt.f9 {w : World} {k : Nat} {u0 u1 u2 u3 u4 u5 u6 u7 u8 : Value} {T : TypeId} (h : RowAt w k #[u0, u1, u2, u3, u4, u5, u6, u7, u8] T) : w.frozen? ⟨k, 0, none⟩ = false ∧ w.frozen? ⟨k, 1, none⟩ = false ∧ w.frozen? ⟨k, 2, none⟩ = false ∧ w.frozen? ⟨k, 3, none⟩ = false ∧ w.frozen? ⟨k, 4, none⟩ = false ∧ w.frozen? ⟨k, 5, none⟩ = false ∧ w.frozen? ⟨k, 6, none⟩ = false ∧ w.frozen? ⟨k, 7, none⟩ = false ∧ w.frozen? ⟨k, 8, none⟩ = false := ⟨h.frozen 0, h.frozen 1, h.frozen 2, h.frozen 3, h.frozen 4, h.frozen 5, h.frozen 6, h.frozen 7, h.frozen 8⟩
theorem RowAt.other9 {w : World} {k b : Nat} {cs : Array Value} {T : TypeId} (h : RowAt w k cs T) (hne : k ≠ b) {v0 v1 v2 v3 v4 v5 v6 v7 v8 : Value} : RowAt (((((((((w.setCell ⟨b, 0, none⟩ v0).setCell ⟨b, 1, none⟩ v1).setCell ⟨b, 2, none⟩ v2).setCell ⟨b, 3, none⟩ v3).setCell ⟨b, 4, none⟩ v4).setCell ⟨b, 5, none⟩ v5).setCell ⟨b, 6, none⟩ v6).setCell ⟨b, 7, none⟩ v7).setCell ⟨b, 8, none⟩ v8) k cs T :=
  ((((((((h.other ⟨b, 0, none⟩ v0 hne).other ⟨b, 1, none⟩ v1 hne).other ⟨b, 2, none⟩ v2 hne).other ⟨b, 3, none⟩ v3 hne).other ⟨b, 4, none⟩ v4 hne).other ⟨b, 5, none⟩ v5 hne).other ⟨b, 6, none⟩ v6 hne).other ⟨b, 7, none⟩ v7 hne).other ⟨b, 8, none⟩ v8 hne
theorem below_set9 {w w' : World} {n b : Nat} (h : Below n w w') (hb : n ≤ b) {v0 v1 v2 v3 v4 v5 v6 v7 v8 : Value} : Below n w (((((((((w'.setCell ⟨b, 0, none⟩ v0).setCell ⟨b, 1, none⟩ v1).setCell ⟨b, 2, none⟩ v2).setCell ⟨b, 3, none⟩ v3).setCell ⟨b, 4, none⟩ v4).setCell ⟨b, 5, none⟩ v5).setCell ⟨b, 6, none⟩ v6).setCell ⟨b, 7, none⟩ v7).setCell ⟨b, 8, none⟩ v8) :=
  ((((((((h.setCell (p := ⟨b, 0, none⟩) hb v0).setCell (p := ⟨b, 1, none⟩) hb v1).setCell (p := ⟨b, 2, none⟩) hb v2).setCell (p := ⟨b, 3, none⟩) hb v3).setCell (p := ⟨b, 4, none⟩) hb v4).setCell (p := ⟨b, 5, none⟩) hb v5).setCell (p := ⟨b, 6, none⟩) hb v6).setCell (p := ⟨b, 7, none⟩) hb v7).setCell (p := ⟨b, 8, none⟩) hb v8

set_option maxHeartbeats 4000000 in
theorem rfromS_any (s : ByteArray) (w : World) (hs : s.size = 65) : Calls Try.prog 28 #[.string s] w fun e w' => e = .returned (.tuple #[sgV (fromS s).1, .int .i64 (fromS s).2]) ∧ Below w.heap.size w w' := by
  have K1 := Lib.hid (fun W => rfromU_any (s.extract 0 32) W (by rw [extract_size (by omega)]))
  have K2 := Lib.hid (fun W => rfromU_any (s.extract 32 64) W (by rw [extract_size (by omega)]))
  have HV : Hid (∀ h : 64 < s.size, ((s[64].toNat : Nat) : Int) = (sgFrom s).2.2) := Lib.hid (fun h => by unfold sgFrom; simp only [sgetD h])
  have h0 : (sgFrom s).1 = fromU (s.extract 0 32) := rfl
  have h1 : (sgFrom s).2.1 = fromU (s.extract 32 64) := rfl
  rw [← h0] at K1
  rw [← h1] at K2
  clear h0 h1
  have HK := Lib.hid (fun W => isSig_any (sgFrom s) (sgFrom_ok s) W)
  have HR : Hid (∀ b, sigOk (sgFrom s) = b → fromS s = if b = true then (sgFrom s, 0) else (zSg, 4)) := Lib.hid (fun b e => by unfold fromS; rw [e])
  have hg64 : 64 < s.size := by omega
  have hv := HV.out hg64
  have R0 := Lib.hid (RowAt.new w #[.int .u64 0, .int .u64 0, .int .u64 0, .int .u64 0, .int .u64 0, .int .u64 0, .int .u64 0, .int .u64 0, .int .i64 0] 68)
  have HB := Lib.hid (belowA w (.cells #[.int .u64 0, .int .u64 0, .int .u64 0, .int .u64 0, .int .u64 0, .int .u64 0, .int .u64 0, .int .u64 0, .int .i64 0] 68))
  generalize sgFrom s = g at *
  obtain ⟨⟨r0, r1, r2, r3⟩, ⟨s0, s1, s2, s3⟩, v⟩ := g
  simp only at hv K1 K2
  have hv256 : (s[64].toNat : Int) < 256 := by have := s[64].toNat_lt; omega
  generalize hvn : s[64].toNat = vn at *
  subst hv
  have hwr : IntKind.i64.wrap (vn : Int) = (vn : Int) := by rw [IntKind.wrap_i64]; omega
  clear hv256
  generalize sigOk ((r0, r1, r2, r3), (s0, s1, s2, s3), (vn : Int)) = b at *
  have HE := Lib.hid (HR.out b rfl)
  clear HR HV
  generalize fromS s = res at *
  dsimp only [u4V, u4c] at K1 K2
  dsimp only [sgV, sgc] at HK
  go_enter Try.func28, Try.ntmps28
  go_upto_region 3 with (fail)
  generalize w.alloc (.cells #[.int .u64 0, .int .u64 0, .int .u64 0, .int .u64 0, .int .u64 0, .int .u64 0, .int .u64 0, .int .u64 0, .int .i64 0] 68) = W at *
  have HW0 : Hid (w.heap.size < W.heap.size) := Lib.hid R0.out.lt
  go_cut [4] (fun t wq => ∃ (k : Nat), t = .pointer (some ⟨k, 0, none⟩) ∧ Hid (w.heap.size < k) ∧ Hid (RowAt wq k #[.int .u64 r0, .int .u64 r1, .int .u64 r2, .int .u64 r3, .int .u64 s0, .int .u64 s1, .int .u64 s2, .int .u64 s3, .int .i64 vn] 68) ∧ Hid (RowAt wq w.heap.size #[.int .u64 0, .int .u64 0, .int .u64 0, .int .u64 0, .int .u64 0, .int .u64 0, .int .u64 0, .int .u64 0, .int .i64 0] 68) ∧ Hid (Below w.heap.size w wq))
  case first =>
    go_region_with (go_at_call 63; (first | (with_reducible refine (K1.out _).mono ?_; rintro e wc ⟨rfl, hb⟩; (first | replace HR := Lib.hid (HR.out.belowS hb) | have HR := Lib.hid (RowAt.belowS (RowAt.new W #[.int .u64 0, .int .u64 0, .int .u64 0, .int .u64 0, .int .u64 0, .int .u64 0, .int .u64 0, .int .u64 0, .int .i64 0] 68).drew hb) | have HR := Lib.hid (RowAt.belowS (RowAt.new _ #[.int .u64 0, .int .u64 0, .int .u64 0, .int .u64 0, .int .u64 0, .int .u64 0, .int .u64 0, .int .u64 0, .int .i64 0] 68) hb) | skip); (first | replace HB := Lib.hid (chain3 HB.out hb) | replace HB := Lib.hid (chain3 HB.out.drew hb) | replace HB := Lib.hid (chain3 (HB.out.alloc HB.out.size _) hb) | replace HB := Lib.hid (chain3 (HB.out.alloc HB.out.size _).drew hb)); (first | replace R0 := Lib.hid (R0.out.belowS hb) | replace R0 := Lib.hid (R0.out.drew.belowS hb) | replace R0 := Lib.hid ((R0.out.alloc _).belowS hb) | replace R0 := Lib.hid ((R0.out.alloc _).drew.belowS hb)); have hlt9 := R0.out.lt; clear hb; (try clear x0 x1 x2 x3 x4 x5 x6 x7 x8 xf0 xf1 xf2 xf3 xf4 xf5 xf6 xf7 xf8); (try (obtain ⟨x0, x1, x2, x3, x4, x5, x6, x7, x8⟩ := HR.out.c9; obtain ⟨xf0, xf1, xf2, xf3, xf4, xf5, xf6, xf7, xf8⟩ := HR.out.f9))) | (with_reducible refine (K2.out _).mono ?_; rintro e wc ⟨rfl, hb⟩; (first | replace HR := Lib.hid (HR.out.belowS hb) | have HR := Lib.hid (RowAt.belowS (RowAt.new W #[.int .u64 0, .int .u64 0, .int .u64 0, .int .u64 0, .int .u64 0, .int .u64 0, .int .u64 0, .int .u64 0, .int .i64 0] 68).drew hb) | have HR := Lib.hid (RowAt.belowS (RowAt.new _ #[.int .u64 0, .int .u64 0, .int .u64 0, .int .u64 0, .int .u64 0, .int .u64 0, .int .u64 0, .int .u64 0, .int .i64 0] 68) hb) | skip); (first | replace HB := Lib.hid (chain3 HB.out hb) | replace HB := Lib.hid (chain3 HB.out.drew hb) | replace HB := Lib.hid (chain3 (HB.out.alloc HB.out.size _) hb) | replace HB := Lib.hid (chain3 (HB.out.alloc HB.out.size _).drew hb)); (first | replace R0 := Lib.hid (R0.out.belowS hb) | replace R0 := Lib.hid (R0.out.drew.belowS hb) | replace R0 := Lib.hid ((R0.out.alloc _).belowS hb) | replace R0 := Lib.hid ((R0.out.alloc _).drew.belowS hb)); have hlt9 := R0.out.lt; clear hb; (try clear x0 x1 x2 x3 x4 x5 x6 x7 x8 xf0 xf1 xf2 xf3 xf4 xf5 xf6 xf7 xf8); (try (obtain ⟨x0, x1, x2, x3, x4, x5, x6, x7, x8⟩ := HR.out.c9; obtain ⟨xf0, xf1, xf2, xf3, xf4, xf5, xf6, xf7, xf8⟩ := HR.out.f9)))))
    all_goals
      have hw9 := HW0.out
      go_wp2
      go_meet
      case rel =>
        first
          | exact ⟨_, rfl, Lib.hid R0.out.lt, Lib.hid (RowAt.new _ _ _), Lib.hid (R0.out.alloc _), Lib.hid (HB.out.alloc HB.out.size _)⟩
          | exact ⟨_, rfl, Lib.hid (by omega), Lib.hid (((HR.out.set9a _ _ _ _).set9b _ _ _ _).set9c _), Lib.hid (R0.out.other9 (by omega)), Lib.hid (below_set9 HB.out (by omega))⟩
  case rest =>
    obtain ⟨k, rfl, hlk, hr, hr0, hb⟩ := hcut
    clear R0 HB
    have R1 := Lib.hid hr.out
    have R0 := Lib.hid hr0.out
    have HB := Lib.hid hb.out
    clear hr hr0 hb
    obtain ⟨x0, x1, x2, x3, x4, x5, x6, x7, x8⟩ := R1.out.c9
    cases b with
    | false =>
      go_upto_region 5 with (go_at_call 64; ((with_reducible refine (HK.out _).mono ?_)); rintro e w3 ⟨rfl, hb⟩; (replace R0 := Lib.hid (R0.out.belowS hb); replace R1 := Lib.hid (R1.out.belowS hb); replace HB := Lib.hid (HB.out.trans (hb.mono HB.out.size)); clear hb); clear x0 x1 x2 x3 x4 x5 x6 x7 x8)
      clear HK K1 K2 R1
      obtain ⟨y0, y1, y2, y3, y4, y5, y6, y7, y8⟩ := R0.out.c9
      have yf0 := R0.out.frozen 0
      have yf1 := R0.out.frozen 1
      have yf2 := R0.out.frozen 2
      have yf3 := R0.out.frozen 3
      have yf4 := R0.out.frozen 4
      have yf5 := R0.out.frozen 5
      have yf6 := R0.out.frozen 6
      have yf7 := R0.out.frozen 7
      have yf8 := R0.out.frozen 8
      go_wp2
      have RZ := Lib.hid ((((R0.out.set9a (.int .u64 0) (.int .u64 0) (.int .u64 0) (.int .u64 0)).set9b (.int .u64 0) (.int .u64 0) (.int .u64 0) (.int .u64 0)).set9c (.int .i64 0)))
      have HZ := Lib.hid (((((((((HB.out.setCell (p := ⟨w.heap.size, 0, none⟩) (Nat.le_refl _) (.int .u64 0)).setCell (p := ⟨w.heap.size, 1, none⟩) (Nat.le_refl _) (.int .u64 0)).setCell (p := ⟨w.heap.size, 2, none⟩) (Nat.le_refl _) (.int .u64 0)).setCell (p := ⟨w.heap.size, 3, none⟩) (Nat.le_refl _) (.int .u64 0)).setCell (p := ⟨w.heap.size, 4, none⟩) (Nat.le_refl _) (.int .u64 0)).setCell (p := ⟨w.heap.size, 5, none⟩) (Nat.le_refl _) (.int .u64 0)).setCell (p := ⟨w.heap.size, 6, none⟩) (Nat.le_refl _) (.int .u64 0)).setCell (p := ⟨w.heap.size, 7, none⟩) (Nat.le_refl _) (.int .u64 0)).setCell (p := ⟨w.heap.size, 8, none⟩) (Nat.le_refl _) (.int .i64 0))
      generalize (((((((((w3.setCell ⟨w.heap.size, 0, none⟩ (.int .u64 0)).setCell ⟨w.heap.size, 1, none⟩ (.int .u64 0)).setCell ⟨w.heap.size, 2, none⟩ (.int .u64 0)).setCell ⟨w.heap.size, 3, none⟩ (.int .u64 0)).setCell ⟨w.heap.size, 4, none⟩ (.int .u64 0)).setCell ⟨w.heap.size, 5, none⟩ (.int .u64 0)).setCell ⟨w.heap.size, 6, none⟩ (.int .u64 0)).setCell ⟨w.heap.size, 7, none⟩ (.int .u64 0)).setCell ⟨w.heap.size, 8, none⟩ (.int .i64 0)) = WZ at *
      clear y0 y1 y2 y3 y4 y5 y6 y7 y8 yf0 yf1 yf2 yf3 yf4 yf5 yf6 yf7 yf8 R0 HB
      obtain ⟨k0, k1, k2, k3, k4, k5, k6, k7, k8⟩ := RZ.out.c9
      refine bodyPost_ret (v := .tuple #[.agg #[.int .u64 0, .int .u64 0, .int .u64 0, .int .u64 0, .int .u64 0, .int .u64 0, .int .u64 0, .int .u64 0, .int .i64 0], .int .i64 4]) (by simp [results, Try.results28, go_sem, k0, k1, k2, k3, k4, k5, k6, k7, k8]) rfl ?_
      exact ⟨by rw [HE.out]; rfl, HZ.out⟩
    | true =>
      go_upto_region 6 with (go_at_call 64; ((with_reducible refine (HK.out _).mono ?_)); rintro e w3 ⟨rfl, hb⟩; (replace R0 := Lib.hid (R0.out.belowS hb); replace R1 := Lib.hid (R1.out.belowS hb); replace HB := Lib.hid (HB.out.trans (hb.mono HB.out.size)); clear hb); clear x0 x1 x2 x3 x4 x5 x6 x7 x8)
      clear HK K1 K2
      obtain ⟨y0, y1, y2, y3, y4, y5, y6, y7, y8⟩ := R0.out.c9
      have yf0 := R0.out.frozen 0
      have yf1 := R0.out.frozen 1
      have yf2 := R0.out.frozen 2
      have yf3 := R0.out.frozen 3
      have yf4 := R0.out.frozen 4
      have yf5 := R0.out.frozen 5
      have yf6 := R0.out.frozen 6
      have yf7 := R0.out.frozen 7
      have yf8 := R0.out.frozen 8
      obtain ⟨x0, x1, x2, x3, x4, x5, x6, x7, x8⟩ := R1.out.c9
      go_wp2
      have RZ := Lib.hid ((((R0.out.set9a (.int .u64 r0) (.int .u64 r1) (.int .u64 r2) (.int .u64 r3)).set9b (.int .u64 s0) (.int .u64 s1) (.int .u64 s2) (.int .u64 s3)).set9c (.int .i64 vn)))
      have HZ := Lib.hid (((((((((HB.out.setCell (p := ⟨w.heap.size, 0, none⟩) (Nat.le_refl _) (.int .u64 r0)).setCell (p := ⟨w.heap.size, 1, none⟩) (Nat.le_refl _) (.int .u64 r1)).setCell (p := ⟨w.heap.size, 2, none⟩) (Nat.le_refl _) (.int .u64 r2)).setCell (p := ⟨w.heap.size, 3, none⟩) (Nat.le_refl _) (.int .u64 r3)).setCell (p := ⟨w.heap.size, 4, none⟩) (Nat.le_refl _) (.int .u64 s0)).setCell (p := ⟨w.heap.size, 5, none⟩) (Nat.le_refl _) (.int .u64 s1)).setCell (p := ⟨w.heap.size, 6, none⟩) (Nat.le_refl _) (.int .u64 s2)).setCell (p := ⟨w.heap.size, 7, none⟩) (Nat.le_refl _) (.int .u64 s3)).setCell (p := ⟨w.heap.size, 8, none⟩) (Nat.le_refl _) (.int .i64 vn))
      generalize (((((((((w3.setCell ⟨w.heap.size, 0, none⟩ (.int .u64 r0)).setCell ⟨w.heap.size, 1, none⟩ (.int .u64 r1)).setCell ⟨w.heap.size, 2, none⟩ (.int .u64 r2)).setCell ⟨w.heap.size, 3, none⟩ (.int .u64 r3)).setCell ⟨w.heap.size, 4, none⟩ (.int .u64 s0)).setCell ⟨w.heap.size, 5, none⟩ (.int .u64 s1)).setCell ⟨w.heap.size, 6, none⟩ (.int .u64 s2)).setCell ⟨w.heap.size, 7, none⟩ (.int .u64 s3)).setCell ⟨w.heap.size, 8, none⟩ (.int .i64 vn)) = WZ at *
      clear y0 y1 y2 y3 y4 y5 y6 y7 y8 yf0 yf1 yf2 yf3 yf4 yf5 yf6 yf7 yf8 x0 x1 x2 x3 x4 x5 x6 x7 x8 R0 R1 HB
      obtain ⟨k0, k1, k2, k3, k4, k5, k6, k7, k8⟩ := RZ.out.c9
      refine bodyPost_ret (v := .tuple #[.agg #[.int .u64 r0, .int .u64 r1, .int .u64 r2, .int .u64 r3, .int .u64 s0, .int .u64 s1, .int .u64 s2, .int .u64 s3, .int .i64 vn], .int .i64 0]) (by simp [results, Try.results28, go_sem, k0, k1, k2, k3, k4, k5, k6, k7, k8]) rfl ?_
      exact ⟨by rw [HE.out]; rfl, HZ.out⟩
end Go.Proofs.Ytefmlbckbhlgdaa
