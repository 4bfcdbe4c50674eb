/- Rlp: RlpLists walked. -/
import Derived.Test.YtdeboidelgnffaaRlp14
import Derived.Test.YtdeboidelgnffaaRlpRep
import Derived.Test.YtdeboidelgnffaaRlpOne
namespace Go.Proofs.Ytdeboidelgnffaa
open Go.RowKit

set_option maxHeartbeats 1000000 in
theorem list_any (p : Option Addr) (n c : Nat) (w : World) :
    Calls Try.prog 16 #[.slice p n c] w fun e w' => e = .returned (.agg #[.bool true, .string ⟨#[]⟩, .slice p n c]) ∧ Below w.heap.size w w' := by
  go_enter Try.func16, Try.ntmps16
  go_wp2
  refine bodyPost_ret (v := .agg #[.bool true, .string ⟨#[]⟩, .slice p n c]) (by simp [results, Try.results16, go_sem]) rfl ?_
  exact ⟨rfl, (Below.refl _ _).alloc (Nat.le_refl _) _⟩

theorem KidsAt.take {w : World} {a : Addr} : ∀ (ks : List It) (i m : Nat), KidsAt w ks a i → KidsAt w (ks.take m) a i
  | _, _, 0, _ => by rw [List.take_zero, KidsAt]; trivial
  | [], _, _ + 1, _ => by rw [List.take_nil, KidsAt]; trivial
  | k :: ks, i, m + 1, h => by
    rw [KidsAt] at h
    rw [List.take_succ_cons, KidsAt]
    exact ⟨h.1, KidsAt.take ks (i + 1) m h.2⟩

theorem KidsIs.take {w : World} {ks : List It} {p : Option Addr} {n c m : Nat} (h : KidsIs w ks (.slice p n c)) (hm : m ≤ ks.length) : KidsIs w (ks.take m) (.slice p m c) := by
  rcases h with ⟨e, rfl⟩ | ⟨a, len, cap, e, g2, g3, g4, g5⟩
  · simp at e hm
    obtain ⟨rfl, rfl, rfl⟩ := e
    subst hm
    exact .inl ⟨rfl, rfl⟩
  · injection e with e1 e2 e3
    subst e1 e2 e3
    exact .inr ⟨a, m, _, rfl, by omega, g3, by rw [List.length_take]; omega, KidsAt.take ks 0 m g5⟩

theorem weights_get : ∀ {ks : List It} {i : Nat} {k : It}, ks[i]? = some k → k.weight ≤ weights ks
  | [], i, k, h => by simp at h
  | x :: ks, 0, k, h => by simp at h; subst h; rw [weights]; omega
  | x :: ks, i + 1, k, h => by
    have := weights_get (ks := ks) (i := i) (by simpa using h)
    rw [weights]; omega
theorem weights_take (ks : List It) (m : Nat) : weights (ks.take m) ≤ weights ks := by
  induction ks generalizing m with
  | nil => simp
  | cons k ks ih =>
    cases m with
    | zero => simp [weights]
    | succ m => rw [List.take_succ_cons, weights, weights]; have := ih m; omega

/-- Items that may be kids here. -/
def goodK (ks : List It) : Prop := ∀ k ∈ ks, k.enc.2 = 0 ∧ k.size ≤ 400

theorem goodK_pures : ∀ {ks : List It}, goodK ks → pures ks ∧ sizes ks ≤ 400 * ks.length
  | [], _ => by simp [pures, sizes]
  | k :: ks, h => by
    obtain ⟨h1, h2⟩ := goodK_pures (ks := ks) fun k' hk' => h k' (by simp [hk'])
    obtain ⟨h3, h4⟩ := h k (by simp)
    rw [pures, sizes, List.length_cons]
    exact ⟨⟨(enc_ok h3).1, h1⟩, by omega⟩

theorem goodK_enc {ks : List It} (h : goodK ks) (hm : ks.length ≤ 8) : (It.mk true [] ks).enc.2 = 5 ∨ (It.mk true [] ks).enc.2 = 2 ∨ ((It.mk true [] ks).enc.2 = 0 ∧ (It.mk true [] ks).enc.1 = headL 192 (writes ks).length ++ writes ks ∧ (writes ks).length ≤ 4000) := by
  obtain ⟨h1, h2⟩ := goodK_pures h
  have hp : ¬ ((It.mk true [] ks).pureB && decide ((It.mk true [] ks).size ≤ 4000)) = false := by
    have e1 : (It.mk true [] ks).pureB = true := by rw [It.pureB, (puresB_iff ks).2 h1]; rfl
    have e2 : (It.mk true [] ks).size ≤ 4000 := by rw [It.size]; omega
    simp [e1, e2]
  have e3 : (It.mk true [] ks).write = headL 192 (writes ks).length ++ writes ks := by rw [It.write, if_pos rfl]
  rw [It.enc, if_neg hp]
  split
  · exact .inl rfl
  · split
    · exact .inr (.inl rfl)
    · rename_i h3
      rw [e3, List.length_append] at h3
      exact .inr (.inr ⟨rfl, e3, by omega⟩)

theorem headL_first (n : Nat) (h : n < 65536) : 192 ≤ ((headL 192 n).getD 0 0).toNat := by
  by_cases h1 : n ≤ 55
  · rw [headL_short h1]; simp; omega
  · by_cases h2 : n < 256
    · rw [headL_one (by omega) h2]; simp
    · rw [headL_two (by omega) h]; simp

theorem goodK_snoc {ks : List It} {i : Nat} {k : It} (h : goodK (ks.take i)) (hk : ks[i]? = some k) (h1 : k.enc.2 = 0) (h2 : k.size ≤ 400) : goodK (ks.take (i + 1)) := by
  intro k' hk'
  rw [List.take_add_one, hk] at hk'
  simp at hk'
  rcases hk' with hk' | rfl
  · exact h k' hk'
  · exact ⟨h1, h2⟩

set_option maxRecDepth 100000 in
set_option maxHeartbeats 2000000 in
theorem rlpLists_walk (w : World) (v : Value) (ks : List It) (hv : KidsIs w ks v) (hwb : weights ks ≤ 1048576) :
    Calls Try.prog 6 #[v] w fun e w' => e = .returned (.bool true) ∧ Below w.heap.size w w' := by
  obtain ⟨p, cap, rfl, h1, h2, hg⟩ := hv.parts
  obtain ⟨m, m1, m2, m3⟩ := minIs_ex 8 (by omega) ks.length
  have m4 : min (ks.length : Int) 8 = m := by rw [← m1]; split <;> omega
  have hwr := writes_le ks (by omega)
  have HG := Lib.hid hg
  have HK := Lib.hid (hv.take m2)
  have HW := Lib.hid (fun (i : Nat) (k : It) (h : ks[i]? = some k) => (by have := weights_get h; have := write_le k (by omega); omega : k.write.length ≤ 1000000000))
  have HD := Lib.hid (fun i k (h : ks[i]? = some k) => writes_take h)
  have HL := Lib.hid (fun i => (by have := writes_take_le ks i; omega : (writes (ks.take i)).length ≤ 100000000))
  have HLen : Hid ((ks.take m).length = m) := Lib.hid (by rw [List.length_take]; omega)
  have D0 : Hid (writes (ks.take 0) = [] ∧ goodK (ks.take 0)) := Lib.hid ⟨by simp [writes], fun k hk => by simp at hk⟩
  have KA := Lib.hid (fun W => alive_any W)
  have HEx := Lib.hid (fun (k : Nat) (h : k < m) => (⟨_, List.getElem?_eq_getElem (by omega)⟩ : ∃ x, ks[k]? = some x))
  clear hv hg m1 hwr hwb
  generalize ks.length = n at *
  go_enter Try.func6, Try.ntmps6
  go_wp2
  go_loopw [3, 18] (fun s i wr => ∃ k : Nat, k ≤ m ∧ i = .int .i64 k ∧ s = .string (mkS (writes (ks.take k))) ∧ goodK (ks.take k) ∧ Below w.heap.size w wr) (fun _ i _ => m - (intOf i).toNat)
  case atStart => exact ⟨0, Nat.zero_le _, rfl, by rw [D0.out.1]; rfl, D0.out.2, Below.refl _ _⟩
  case round =>
    clear D0
    obtain ⟨k, hk, rfl, rfl, hgood, hbl⟩ := hrel
    have B := Lib.hid hbl
    have G := Lib.hid hgood
    clear hbl hgood
    by_cases hlt : k < m
    · obtain ⟨x, hx⟩ := HEx.out k hlt
      obtain ⟨a, l', b', p', n', c', rfl, c0, c1, c2, hi⟩ := HG.out k x hx
      have q0 : wr.cell? (a.add (k * 3)) = some (.bool l') := by rw [B.out.cell (block_lt_of_cell c0)]; exact c0
      have q1 : wr.cell? ⟨(a.add (k * 3)).block, (a.add (k * 3)).off + 1, none⟩ = some (.string b') := by
        have e : (⟨(a.add (k * 3)).block, (a.add (k * 3)).off + 1, none⟩ : Addr) = a.add (k * 3 + 1) := by rw [← Go.Deep.add_add]; rfl
        rw [e, B.out.cell (block_lt_of_cell c1)]
        exact c1
      have q2 : wr.cell? ⟨(a.add (k * 3)).block, (a.add (k * 3)).off + 2, none⟩ = some (.slice p' n' c') := by
        have e : (⟨(a.add (k * 3)).block, (a.add (k * 3)).off + 2, none⟩ : Addr) = a.add (k * 3 + 2) := by rw [← Go.Deep.add_add]; rfl
        rw [e, B.out.cell (block_lt_of_cell c2)]
        exact c2
      have HX : ∀ W, Below w.heap.size w W → ItemIs W x (.agg #[.bool l', .string b', .slice p' n' c']) := fun W h => ItemIs.below h (Nat.le_refl _) _ _ hi
      have KF := Lib.hid (fun W h => few_any x (.agg #[.bool l', .string b', .slice p' n' c']) W (HX W h))
      have KE := Lib.hid (fun W h => encode_any x (.agg #[.bool l', .string b', .slice p' n' c']) W (HX W h) (fun _ _ => HW.out k x hx))
      have HGS := Lib.hid (fun h1 h2 => goodK_snoc (i := k) G.out hx h1 h2)
      have HE1 := Lib.hid (fun (h : x.enc.2 = 0) => (enc_ok h).2.2.1)
      have hz1 := HL.out (k + 1)
      rw [HD.out k x hx, List.length_append] at hz1
      have hz2 : (mkS (writes (ks.take k))).size = (writes (ks.take k)).length := mk_size _
      have hz3 : (mkS x.write).size = x.write.length := mk_size _
      have HD1 := Lib.hid (HD.out k x hx)
      have HE2 : Hid (mkS (writes (ks.take k)) ++ mkS x.write = mkS (writes (ks.take k) ++ x.write)) := Lib.hid (mk_append _ _)
      clear hi c0 c1 c2 HX hx
      have L : Hid (RowAt (wr.alloc (ivO (l', b', p', n', c'))) wr.heap.size #[.bool l', .string b', .slice p' n' c'] 24) := Lib.hid (RowAt.new _ _ _)
      replace B := Lib.hid (B.out.alloc B.out.size (ivO (l', b', p', n', c')))
      by_cases hfew : x.size ≤ 400
      · rw [decide_eq_true hfew] at KF
        by_cases hok : x.enc.2 = 0
        · rw [hok, HE1.out hok] at KE
          have HGS2 := Lib.hid (HGS.out hok hfew)
          clear HGS HE1 hok hfew
          obtain ⟨a0, a1, a2, af0, af1, af2⟩ := L.out.c3
          go_wp2_with fail
          refine (KF.out _ B.out).mono ?_
          rintro e w1 ⟨rfl, hb⟩
          clear a0 a1 a2 af0 af1 af2
          (replace L := Lib.hid (L.out.belowS hb); replace B := Lib.hid (B.out.trans (hb.mono B.out.size)); clear hb)
          obtain ⟨a0, a1, a2, af0, af1, af2⟩ := L.out.c3
          go_wp2_with fail
          refine (KE.out _ B.out).mono ?_
          rintro e w2 ⟨rfl, hb⟩
          (replace B := Lib.hid (B.out.trans (hb.mono B.out.size)); clear hb)
          go_wp2_with fail
          go_roundw
          case rel => exact ⟨k + 1, by omega, by go_num, by rw [HD1.out, ← HE2.out], HGS2.out, B.out⟩
          case measure => simp [intOf]; omega
        · clear HGS HE1
          generalize x.enc.2 = c at *
          generalize mkS x.enc.1 = S at *
          obtain ⟨a0, a1, a2, af0, af1, af2⟩ := L.out.c3
          go_wp2_with fail
          refine (KF.out _ B.out).mono ?_
          rintro e w1 ⟨rfl, hb⟩
          clear a0 a1 a2 af0 af1 af2
          (replace L := Lib.hid (L.out.belowS hb); replace B := Lib.hid (B.out.trans (hb.mono B.out.size)); clear hb)
          obtain ⟨a0, a1, a2, af0, af1, af2⟩ := L.out.c3
          go_wp2_with fail
          refine (KE.out _ B.out).mono ?_
          rintro e w2 ⟨rfl, hb⟩
          (replace B := Lib.hid (B.out.trans (hb.mono B.out.size)); clear hb)
          go_wp2_with fail
          refine (KA.out _).mono ?_
          rintro e w3 ⟨rfl, hb⟩
          (replace B := Lib.hid (B.out.trans (hb.mono B.out.size)); clear hb)
          go_wp2
          go_ret
          exact ⟨rfl, B.out⟩
      · rw [decide_eq_false hfew] at KF
        clear HGS HE1 hfew
        obtain ⟨a0, a1, a2, af0, af1, af2⟩ := L.out.c3
        go_wp2_with fail
        refine (KF.out _ B.out).mono ?_
        rintro e w1 ⟨rfl, hb⟩
        (replace B := Lib.hid (B.out.trans (hb.mono B.out.size)); clear hb)
        go_wp2_with fail
        refine (KA.out _).mono ?_
        rintro e w2 ⟨rfl, hb⟩
        (replace B := Lib.hid (B.out.trans (hb.mono B.out.size)); clear hb)
        go_wp2
        go_ret
        exact ⟨rfl, B.out⟩
    · obtain rfl : k = m := by omega
      have hE := goodK_enc G.out (by rw [HLen.out]; omega)
      have hz1 := HL.out k
      have HX : ∀ W, Below w.heap.size w W → ItemIs W (.mk true [] (ks.take k)) (.agg #[.bool true, .string ⟨#[]⟩, .slice p k cap]) := fun W h => by
        rw [itemIs_iff]
        exact ⟨.slice p k cap, rfl, by simp, HK.out.below h (Nat.le_refl _)⟩
      have hwl : (It.mk true [] (ks.take k)).write.length ≤ 1000000000 := by
        rw [It.write, if_pos rfl, List.length_append]
        have := headL_le 192 (writes (ks.take k)).length (by omega)
        omega
      have KE := Lib.hid (fun W h => encode_any (.mk true [] (ks.take k)) _ W (HX W h) (fun _ _ => hwl))
      clear HX hwl HEx HW HD HL HLen HG
      obtain ⟨xe, hxe⟩ : ∃ xe, (It.mk true [] (ks.take k)).enc = xe := ⟨_, rfl⟩
      rw [hxe] at KE hE
      clear hxe
      obtain ⟨xe1, xe2⟩ := xe
      simp only at KE hE
      rcases hE with rfl | rfl | ⟨rfl, rfl, hlen⟩
      iterate 2
        · generalize mkS xe1 = S at *
          generalize mkS (writes (ks.take k)) = WS at *
          go_wp2_with fail
          refine (list_any p k cap _).mono ?_
          rintro e w1 ⟨rfl, hb⟩
          (replace B := Lib.hid (B.out.trans (hb.mono B.out.size)); clear hb)
          go_wp2_with fail
          refine (KE.out _ B.out).mono ?_
          rintro e w2 ⟨rfl, hb⟩
          (replace B := Lib.hid (B.out.trans (hb.mono B.out.size)); clear hb)
          go_wp2_with fail
          refine (KA.out _).mono ?_
          rintro e w3 ⟨rfl, hb⟩
          (replace B := Lib.hid (B.out.trans (hb.mono B.out.size)); clear hb)
          go_wp2
          go_ret
          exact ⟨rfl, B.out⟩
      generalize writes (ks.take k) = W at *
      have hhl := headL_length (fr := 192) (n := W.length) (by omega)
      have hA : (mkS (headL 192 W.length ++ W)).size = (headL 192 W.length).length + W.length := by rw [mk_size, List.length_append]
      have hX : (mkS (headL 192 W.length ++ W)).extract (headL 192 W.length).length (mkS (headL 192 W.length ++ W)).size = mkS W := by
        rw [mk_extract, mk_size]
        congr 1
        rw [List.take_of_length_le (Nat.le_refl _), List.drop_left]
      have hzW : (mkS W).size = W.length := mk_size _
      have hf : ∀ h : 0 < (mkS (headL 192 W.length ++ W)).size, 192 ≤ (((mkS (headL 192 W.length ++ W))[0]'h).toNat : Int) := fun h => by
        rw [mkget]
        have := headL_first W.length (by omega)
        have h0 := headL_pos 192 W.length
        rw [List.getD, List.getElem?_append_left (by omega), ← List.getD]
        omega
      clear hz1
      generalize mkS (headL 192 W.length ++ W) = A at *
      generalize (headL 192 W.length).length = hl at *
      generalize mkS W = WS at *
      rw [← hzW] at hhl hA hlen
      clear hzW
      have hA0 : 0 < A.size := by rw [hA, hhl]; split <;> (try split) <;> omega
      replace hf := hf hA0
      have hAle : A.size ≤ 5000 := by rw [hA, hhl]; split <;> (try split) <;> omega
      by_cases c1 : WS.size ≤ 55
      · rw [if_pos c1] at hhl
        subst hhl
        have hsub : (A.size : Int) - (WS.size : Int) = 1 := by rw [hA]; omega
        have hA1 : 1 ≤ A.size := by omega
        clear hA hlen
        go_wp2_with fail
        refine (list_any p k cap _).mono ?_
        rintro e w1 ⟨rfl, hb⟩
        (replace B := Lib.hid (B.out.trans (hb.mono B.out.size)); clear hb)
        go_wp2_with fail
        refine (KE.out _ B.out).mono ?_
        rintro e w2 ⟨rfl, hb⟩
        (replace B := Lib.hid (B.out.trans (hb.mono B.out.size)); clear hb)
        go_wp2_with fail
        refine (KA.out _).mono ?_
        rintro e w3 ⟨rfl, hb⟩
        (replace B := Lib.hid (B.out.trans (hb.mono B.out.size)); clear hb)
        go_wp2
        go_ret
        exact ⟨by simp; omega, B.out⟩
      · rw [if_neg c1] at hhl
        have hl2 : 2 ≤ hl ∧ hl ≤ 3 := by rw [hhl]; split <;> omega
        have hsub : (A.size : Int) - (WS.size : Int) = hl := by rw [hA]; omega
        have hA1 : hl ≤ A.size := by omega
        obtain ⟨ha, hb3⟩ := hl2
        have hne : ((hl : Int) == 1) = false := by simp; omega
        clear hA hlen hhl
        go_wp2_with fail
        refine (list_any p k cap _).mono ?_
        rintro e w1 ⟨rfl, hb⟩
        (replace B := Lib.hid (B.out.trans (hb.mono B.out.size)); clear hb)
        go_wp2_with fail
        refine (KE.out _ B.out).mono ?_
        rintro e w2 ⟨rfl, hb⟩
        (replace B := Lib.hid (B.out.trans (hb.mono B.out.size)); clear hb)
        go_wp2_with fail
        refine (KA.out _).mono ?_
        rintro e w3 ⟨rfl, hb⟩
        (replace B := Lib.hid (B.out.trans (hb.mono B.out.size)); clear hb)
        go_wp2
        go_ret
        exact ⟨by simp; omega, B.out⟩
open Go.ChangeShapes Go.WideShapes Go.ChangeAt in
theorem kids_open {H : Type} {enc : TypeId × Value → H} {w : World} {base : Nat} {v : Value} {d : DataW H} {p : List MemPlace} (hv : Value.okWide Try.prog w .any base 22 v) (h : DataW.Trod enc Try.prog w 0 (fun _ => true) true 22 v d p) (_ : ∀ x ∈ p, x.block < w.heap.size) :
    ∃ ks, KidsIs w ks v ∧ weights ks ≤ Rows.uptoBulk d := by
  obtain ⟨a0, len0, cap0, rfl⟩ := okWide_slice Try.underlying22 hv
  obtain ⟨fuel, hf⟩ := h
  have h3 : Try.prog.cellsOf 24 = 3 := by kernel_rfl
  rcases DataW.trod_slice Try.underlying22 hf with ⟨e2, e2'⟩ | ⟨a, len, cap, elems, rest, n', rfl, e2, e2', _, hlc, hcm, hel, hget, _, _⟩
  · simp [Value.cells] at e2
    obtain ⟨rfl, rfl, rfl⟩ := e2
    exact ⟨[], .inl ⟨rfl, rfl⟩, Nat.zero_le _⟩
  · simp [Value.cells] at e2
    obtain ⟨rfl, rfl, rfl⟩ := e2
    have hall : ∀ i, i < len0 → ∃ k : It, (∃ v0 v1 v2, w.cell? (a.add (i * 3)) = some v0 ∧ w.cell? (a.add (i * 3 + 1)) = some v1 ∧ w.cell? (a.add (i * 3 + 2)) = some v2 ∧ ItemIs w k (.agg #[v0, v1, v2])) ∧ ∀ d, elems[i]? = some d → k.weight ≤ Rows.uptoBulk d.1 := by
      intro i hi
      have hgi := hget i hi
      rw [h3, List.getElem?_eq_getElem (show i < elems.length by omega)] at hgi
      obtain ⟨cs', k1, k2⟩ := Option.bind_eq_some_iff.1 hgi
      obtain ⟨_, kl, kc⟩ := World.cells?_some k1
      obtain ⟨k, v0, v1, v2, rfl, ki, kw⟩ := item_trod n' k2
      refine ⟨k, ⟨v0, v1, v2, ?_, ?_, ?_, ki⟩, fun d hd => ?_⟩
      · have := kc 0 (by omega)
        rw [Go.Deep.add_add] at this
        simpa using this
      · have := kc 1 (by omega)
        rw [Go.Deep.add_add] at this
        simpa using this
      · have := kc 2 (by omega)
        rw [Go.Deep.add_add] at this
        simpa using this
      · rw [List.getElem?_eq_getElem (show i < elems.length by omega)] at hd
        simp at hd
        subst hd
        exact kw
    obtain ⟨ks, hkl, hks⟩ := exists_list len0 hall
    refine ⟨ks, .inr ⟨a, len0, cap0, rfl, hlc, by unfold maxLen at hcm; omega, hkl, kidsAt_mk ks 0 fun j k hj => ?_⟩, ?_⟩
    · rw [Nat.zero_add]
      exact (hks j k hj).1
    · have hw := weights_le_bulk ks (elems.map (·.1)) (by simp [hkl, hel]) (fun i k d e1 e2 => by
        rw [List.getElem?_map] at e2
        obtain ⟨d', h1, rfl⟩ := Option.map_eq_some_iff.1 e2
        exact (hks i k e1).2 d' h1)
      rw [show d = _ from (Prod.mk.inj e2').1]
      simp only [Rows.uptoBulk]
      omega
end Go.Proofs.Ytdeboidelgnffaa
