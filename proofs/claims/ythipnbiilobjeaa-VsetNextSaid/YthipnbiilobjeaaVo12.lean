/- Vote: slices.Insert of an address into a row of the call's own. -/
import Derived.Test.YthipnbiilobjeaaVo3
namespace Go.Proofs.Ythipnbiilobjeaa
open Go.RowKit

theorem k1S (m : Nat) : m * encS.k = m := Nat.mul_one m
theorem flat_lengthS (l : List ByteArray) : (flat encS l).length = l.length := by rw [flat_length, k1S]
theorem flat_takeS (l : List ByteArray) (i : Nat) : (flat encS l).take i = flat encS (l.take i) := by
  have := flat_take encS l i
  rwa [k1S] at this
theorem flat_dropS (l : List ByteArray) (i : Nat) : (flat encS l).drop i = flat encS (l.drop i) := by
  have := flat_drop encS l i
  rwa [k1S] at this

set_option maxRecDepth 100000 in
set_option maxHeartbeats 2000000 in
theorem insertS_any (v : Value) (l : List ByteArray) (i : Nat) (b : ByteArray) (gx : Nat) (w : World) (B : Nat) (hown : OwnE encS 9 w B v l) (hi : i ≤ l.length) (hB : B ≤ w.heap.size)
    (hx : RowAt w gx #[.string b] 9) (hne : v.ownBlock ≠ some gx) (hl : l.length ≤ 1000000) :
    Calls Try.prog 106 #[v, .int .i64 i, .slice (some ⟨gx, 0, none⟩) 1 1] w fun e w' => ∃ v', e = .returned v' ∧ OwnE encS 9 w' B v' (l.take i ++ b :: l.drop i) ∧ Below B w w' := by
  have hsrc : RowE encS w (.slice (some ⟨gx, 0, none⟩) 1 1) [b] := .inr ⟨_, 1, rfl, Nat.le_refl _, by unfold maxLen; omega, fun j u hj => by
    have hadd : (⟨gx, 0, none⟩ : Addr).add j = ⟨gx, j, none⟩ := by rw [Addr.add_lit, Nat.zero_add]
    rw [hadd, hx.cell j]
    simpa [flat, encS] using hj⟩
  by_cases hin : i = l.length
  · subst hin
    obtain ⟨p, cap, rfl, h1, h2⟩ := hown.row.shape
    have e : l.take l.length ++ b :: l.drop l.length = l ++ [b] := by simp
    rw [e]
    have O := Lib.hid hown
    have R := Lib.hid hsrc
    clear hown hsrc hx hne e
    generalize hn : l.length = n at *
    have HN := Lib.hid hn
    clear hn
    go_enter Try.func106, Try.ntmps106
    go_wp2_with (at_builtin; refine wpList_append_rowS rfl _ _ rfl B _ l rfl O.out _ [b] rfl R.out (by rw [HN.out]; simp; omega) hB ?_)
    all_goals
      intro v' w' ho hb hz hn
      have HO := Lib.hid ho
      have HB := Lib.hid (hb _ (Below.refl B w))
      clear ho hb hn
      go_wp2_with fail
      go_ret
      exact ⟨_, rfl, HO.out, HB.out⟩
  · rcases hown.2 with ⟨hv, hn⟩ | ⟨g, cap, cur, rfl, hg, hc, hn, hcap, hsz, htk⟩
    · omega
    · have hsz3 : cur.size = cap := by rw [hsz, k1S]
      have htk3 : cur.toList.take (l.length) = flat encS l := by rw [k1S] at htk; exact htk
      have hne2 : gx ≠ g := fun e => hne (by rw [e]; rfl)
      have hcsW : ∀ W : World, W.heap[g]? = some (.cells cur 9 (0, 0)) → ∀ j u, (flat encS l)[j]? = some u → W.cell? ⟨g, j, none⟩ = some u := fun W hW j u hj => by
        have ho : OwnE encS 9 W B (.slice (some ⟨g, 0, none⟩) l.length cap) l := ⟨hown.1, .inr ⟨g, cap, cur, rfl, hg, hW, hn, hcap, hsz, htk⟩⟩
        have := World.ownsRow.cells ho rfl j u hj
        have hadd : (⟨g, 0, none⟩ : Addr).add j = ⟨g, j, none⟩ := by rw [Addr.add_lit, Nat.zero_add]
        rwa [hadd] at this
      have hcs := hcsW w hc
      have hfl := flat_lengthS l
      have hov : ∀ q lb cb (W : World), RowAt W gx #[.string b] 9 → W.heap[g]? = some (.cells cur 9 (0, 0)) → (callFunc 154 #[.slice (some ⟨gx, 0, none⟩) 1 1, .slice (some ⟨g, q, none⟩) lb cb]).run Try.prog W = .ok (.value (.bool false)) W := fun q lb cb W h1 h2 => by
        rw [run_callFunc_extern Try.func154 (by kernel_rfl) (by kernel_rfl) (by kernel_rfl) (e := Extern.SlicesOverlaps.overlaps #[33, 33] #[4]) (by kernel_rfl),
          Lib.run_overlaps_apart W 33 4 9 Try.underlying33 1 Try.sizeOf9 ⟨gx, 0, none⟩ ⟨g, q, none⟩ 1 1 lb cb hne2 9 9 1 (cap) (by simp [World.shape?, show W.heap[gx]? = _ from h1]) (by simp [World.shape?, h2, hsz3]) (by omega) (h1.frozen 0) (h1.frozen 1)]
        rfl
      have hcap2 : cap ≤ 9223372036854775807 := by unfold maxLen at hcap; omega
      by_cases hroom : l.length + 1 ≤ cap
      · have hov2 := fun q lb cb => hov q lb cb w hx hc
        clear hov
        have hl3 : (l.length : Int) ≠ i := by omega
        have hlen : (l.take i ++ b :: l.drop i).length = l.length + 1 := by
          rw [List.length_append, List.length_cons, List.length_take, List.length_drop]; omega
        generalize hn' : l.length = n at *
        have hb1 : ¬ cap = i := by omega
        have hb2 : ¬ cap = i + 1 := by omega
        have hw1 : IntKind.i64.wrap ((i : Int) + 1) = (i : Int) + 1 := by rw [IntKind.wrap_i64]; omega
        have hb3 : (0 : Int) ≤ (i : Int) + 1 := by omega
        have htn : ((i : Int) + 1).toNat = i + 1 := by omega
        have hb4 : (i : Int) ≤ (n : Int) + 1 := by omega
        have hb5 : (i : Int) + 1 ≤ (n : Int) + 1 := by omega
        go_enter Try.func106, Try.ntmps106
        go_wp2_with (simp only [hov2])
        (refine region_tail 8 mix ?hB ?_; case hB => kernel_rfl); (simp only [List.take_succ_cons, List.take_zero, List.drop_succ_cons, List.drop_zero]; (iterate 8 (with_reducible refine wpStill_step ?_; intro K hK; go_simp; with_reducible refine hK _ ?_; clear hK K)); with_reducible refine wpStill_nil ?_)
        obtain ⟨i0, hi0, hz0, hz1, hz2⟩ := info_parts info_str
        have hdl : (flat encS (l.drop i)).length = (n - i) := by rw [flat_lengthS, List.length_drop, hn']
        have hdr : ∀ j u, (flat encS (l.drop i))[j]? = some u → w.drew.cell? ⟨g, i + j, none⟩ = some u := fun j u hj => by
          rw [← flat_dropS, List.getElem?_drop] at hj
          exact hcs _ u hj
        refine wpList_copy_k rfl _ _ _ _ rfl _ _ rfl rfl _ _ (run_copy_k w.drew _ _ _ 9 i0 1 g _ _ _ _ _ _ cur 9 (flat encS (l.drop i)) Try.underlying33 hi0 hz1 hc ?_ ?_ ?_ (flat_one _ _)) ?_
        · rw [hdl, show Nat.min (n + 1 - i) (n - i) = n - i from Nat.min_eq_right (by omega), Nat.mul_one]
        · intro j v hj
          rw [Addr.add_lit]
          exact hdr j v hj
        · rw [hdl, hsz3]; omega
        have hclen : cur.toList.length = cap := by rw [Array.length_toList, hsz3]
        have HFin : Hid (∃ C2 : Array Value, C2 = (((cur.toList.take (i + (encS.cells b).length) ++ flat encS (l.drop i) ++ cur.toList.drop (i + (encS.cells b).length + (flat encS (l.drop i)).length)).take (i) ++ encS.cells b ++ (cur.toList.take (i + (encS.cells b).length) ++ flat encS (l.drop i) ++ cur.toList.drop (i + (encS.cells b).length + (flat encS (l.drop i)).length)).drop (i + (encS.cells b).length))).toArray ∧ C2.size = cap ∧ C2.toList.take ((n + 1)) = flat encS (l.take i ++ b :: l.drop i)) := Lib.hid (by
          refine ⟨_, rfl, ?_, ?_⟩
          · have := encS.len b
            simp only [List.size_toArray, List.length_append, List.length_take, List.length_drop, hclen, hdl, show (encS.cells b).length = 1 from rfl]
            omega
          · have hpt := put_take2 cur.toList (encS.cells b) (flat encS (l.drop i)) (i) (by rw [hclen, hdl, show (encS.cells b).length = 1 from rfl]; omega)
            rw [show i + (encS.cells b).length + (flat encS (l.drop i)).length = (n + 1) by rw [hdl, show (encS.cells b).length = 1 from rfl]; omega] at hpt ⊢
            rw [hpt, flat_append, flat, ← flat_takeS, ← List.append_assoc]
            congr 2
            rw [← htk3, List.take_take, Nat.min_eq_left hi])
        obtain ⟨C2, hC2, hC2s, hC2t⟩ := HFin.out
        clear HFin
        rw [show (i + 1) = i + (encS.cells b).length from by rw [show (encS.cells b).length = 1 from rfl]]
        generalize hC1 : (cur.toList.take (i + (encS.cells b).length) ++ flat encS (l.drop i) ++ cur.toList.drop (i + (encS.cells b).length + (flat encS (l.drop i)).length)) = C1 at *
        have hC1s : C1.length = cap := by
          rw [← hC1]
          simp only [List.length_append, List.length_take, List.length_drop, hclen, hdl, show (encS.cells b).length = 1 from rfl]
          omega
        have hr1 : (w.drew.setRow g C1.toArray).heap[g]? = some (.cells C1.toArray 9 (0, 0)) := setRow_heap w.drew g cur C1.toArray _ _ hc
        have hx1 : RowAt (w.drew.setRow g C1.toArray) gx #[.string b] 9 := by
          unfold RowAt
          rw [setRow_other _ _ _ _ hne2]
          exact hx
        have hB1 : Below B w (w.drew.setRow g C1.toArray) := (Below.refl B w).drew.trans (below_setRow _ _ _ _ hg)
        generalize w.drew.setRow g C1.toArray = W1 at *
        clear hov2 hx hsrc hc hC1 hcs hcsW hdr htk htk3 hfl hown
        have hm1 : Nat.min 1 (n + 1 - i) = 1 := Nat.min_eq_left (by omega)
        have hcp2 := run_copy_k W1 33 33 3 9 i0 1 g (i) (n + 1 - i) (cap - i) ⟨gx, 0, none⟩ 1 1 C1.toArray 9 (encS.cells b) Try.underlying33 hi0 hz1 hr1 (by rw [hm1]; rfl)
          (fun j u hj => by rw [Addr.add_lit, Nat.zero_add, hx1.cell j]; simpa [encS] using hj) (by rw [List.size_toArray, hC1s, show (encS.cells b).length = 1 from rfl]; omega) (encS.one b)
        rw [hm1] at hcp2
        go_wp2_with (simp only [hcp2])
        go_ret
        rw [List.append_assoc] at hC2
        rw [← hC2]
        refine ⟨_, rfl, ⟨?_, .inr ⟨g, cap, C2, ?_, hg, setRow_heap W1 g _ C2 _ _ hr1, ?_, hcap, by rw [k1S]; exact hC2s, ?_⟩⟩, hB1.trans (below_setRow _ _ _ _ hg)⟩
        · rw [flat_lengthS, hlen, k1S]
        · rw [hlen]; rfl
        · rw [hlen]; exact hroom
        · rw [hlen, k1S]; exact hC2t
      · have hlen : (l.take i ++ b :: l.drop i).length = l.length + 1 := by
          rw [List.length_append, List.length_cons, List.length_take, List.length_drop]; omega
        have hl3 : (l.length : Int) ≠ i := by omega
        generalize hn' : l.length = n at *
        have hcn : cap = n := by omega
        subst hcn
        clear hov hroom hn
        have hw0 : IntKind.i64.wrap ((cap : Int) + 1) = (cap : Int) + 1 := by rw [IntKind.wrap_i64]; omega
        have hw1 : IntKind.i64.wrap ((i : Int) + 1) = (i : Int) + 1 := by rw [IntKind.wrap_i64]; omega
        have hw2 : IntKind.i64.wrap ((cap : Int) + 1 - (i : Int)) = (cap : Int) + 1 - (i : Int) := by rw [IntKind.wrap_i64]; omega
        have hb3 : (0 : Int) ≤ (i : Int) + 1 := by omega
        have htn : ((i : Int) + 1).toNat = i + 1 := by omega
        have hb1 : ¬ cap = i := by omega
        obtain ⟨i0, hi0, hz0, hz1, hz2⟩ := info_parts info_str
        have hgr := run_append_grow_zeros w 33 3 33 9 i0 _ .i64 .i64 Try.underlying33 Try.underlying3 hi0 hz0 ⟨g, 0, none⟩ i cap (flat encS (l.take i))
          (by rw [flat_lengthS, List.length_take, hn', hz1, Nat.min_eq_left hi, Nat.mul_one]) (fun j u hj => by
            rw [Addr.add_lit, Nat.zero_add]
            refine hcs j u ?_
            rw [← flat_takeS, List.getElem?_take] at hj
            split at hj
            · exact hj
            · cases hj) (cap + 1 - i) (by omega) (by omega) (by omega) (by omega) (by omega)
        rw [show i + (cap + 1 - i) = cap + 1 by omega, show ((cap + 1 - i : Nat) : Int) = (cap : Int) + 1 - (i : Int) by omega] at hgr
        have hG1 := grownCap_ge w (cap + 1) cap 9
        have hG2 := grownCap_le_maxLen w (cap + 1) cap 9 (by unfold maxLen; omega)
        generalize grownCap w (cap + 1) cap 9 = G at *
        have hG3 : (G : Int) ≤ 9223372036854775807 := by unfold maxLen at hG2; omega
        generalize hC0 : ((flat encS (l.take i)).toArray ++ Builtin.zeroCells (Value.string ⟨#[]⟩).cells (cap + 1 - i) ++ Builtin.zeroCells (Value.string ⟨#[]⟩).cells (G - (cap + 1))) = C0 at *
        have hC0s : C0.size = G := by
          rw [← hC0]
          simp only [Array.size_append, List.size_toArray, flat_lengthS, size_zeroCells, List.length_take, hn', Nat.min_eq_left hi]
          show i + (cap + 1 - i) * 1 + (G - (cap + 1)) * 1 = G
          omega
        have hC0t : C0.toList.take (i) = flat encS (l.take i) := by
          rw [← hC0]
          simp only [Array.toList_append]
          rw [List.append_assoc]
          refine List.take_left' ?_
          rw [flat_lengthS, List.length_take, hn', Nat.min_eq_left hi]
        go_enter Try.func106, Try.ntmps106
        go_wp2_with (at_builtin; refine Lib.wpList_append_run w rfl _ _ _ _ rfl _ _ rfl rfl _ _ hgr ?_)
        have hglt : g < w.heap.size := (Array.getElem?_eq_some_iff.mp hc).1
        have hxlt : gx < w.heap.size := (Array.getElem?_eq_some_iff.mp hx).1
        have hB1 : Below w.heap.size w (w.alloc (.cells C0 9)).drew := ((Below.refl _ w).alloc (Nat.le_refl _) _).drew
        have hr1 : (w.alloc (.cells C0 9)).drew.heap[w.heap.size]? = some (.cells C0 9 (0, 0)) := heap_alloc_new w _
        have hc1 : (w.alloc (.cells C0 9)).drew.heap[g]? = some (.cells cur 9 (0, 0)) := by rw [hB1.block g hglt]; exact hc
        have hx1 : RowAt (w.alloc (.cells C0 9)).drew gx #[.string b] 9 := by unfold RowAt; rw [hB1.block gx hxlt]; exact hx
        have hB1' : Below B w (w.alloc (.cells C0 9)).drew := hB1.mono hB
        generalize (w.alloc (.cells C0 9)).drew = W1 at *
        generalize hg2 : w.heap.size = g2 at *
        have hgg : g ≠ g2 := by omega
        have hxg : gx ≠ g2 := by omega
        have hdl : (flat encS (l.drop i)).length = (cap - i) := by rw [flat_lengthS, List.length_drop, hn']
        have hclen : C0.toList.length = G := by rw [Array.length_toList, hC0s]
        have hb3 : (encS.cells b).length = 1 := rfl
        have HFin : Hid (∃ C2 : Array Value, C2 = ((C0.toList.take (i) ++ encS.cells b ++ C0.toList.drop (i + (encS.cells b).length)).take ((i + 1)) ++ flat encS (l.drop i) ++ (C0.toList.take (i) ++ encS.cells b ++ C0.toList.drop (i + (encS.cells b).length)).drop ((i + 1) + (flat encS (l.drop i)).length)).toArray ∧ C2.size = G ∧ C2.toList.take ((cap + 1)) = flat encS (l.take i ++ b :: l.drop i)) := Lib.hid (by
          refine ⟨_, rfl, ?_, ?_⟩
          · simp only [List.size_toArray, List.length_append, List.length_take, List.length_drop, hclen, hdl, hb3]
            omega
          · have hpt := put_take C0.toList (encS.cells b) (flat encS (l.drop i)) (i) (by rw [hclen, hdl, hb3]; omega)
            rw [show i + (encS.cells b).length + (flat encS (l.drop i)).length = (cap + 1) by rw [hdl, hb3]; omega, show i + (encS.cells b).length = (i + 1) by rw [hb3]] at hpt
            rw [show (i + 1) + (flat encS (l.drop i)).length = (cap + 1) by rw [hdl]; omega, show i + (encS.cells b).length = (i + 1) by rw [hb3], hpt, flat_append, flat, hC0t, List.append_assoc])
        obtain ⟨C2, hC2, hC2s, hC2t⟩ := HFin.out
        clear HFin
        generalize hC1 : (C0.toList.take (i) ++ encS.cells b ++ C0.toList.drop (i + (encS.cells b).length)) = C1 at *
        have hC1s : C1.length = G := by
          rw [← hC1]
          simp only [List.length_append, List.length_take, List.length_drop, hclen, hb3]
          omega
        have hm1 : Nat.min 1 (cap + 1 - i) = 1 := Nat.min_eq_left (by omega)
        have hcp1 := run_copy_k W1 33 33 3 9 i0 1 g2 (i) (cap + 1 - i) (G - i) ⟨gx, 0, none⟩ 1 1 C0 9 (encS.cells b) Try.underlying33 hi0 hz1 hr1 (by rw [hm1]; rfl)
          (fun j u hj => by rw [Addr.add_lit, Nat.zero_add, hx1.cell j]; simpa [encS] using hj) (by rw [hC0s, hb3]; omega) (encS.one b)
        rw [hm1] at hcp1
        have hcp1' := hcp1
        rw [hC1] at hcp1'
        go_wp2_with (simp only [hcp1'])
        have hr2 : (W1.setRow g2 C1.toArray).heap[g2]? = some (.cells C1.toArray 9 (0, 0)) := setRow_heap W1 g2 C0 C1.toArray _ _ hr1
        have hc2 : (W1.setRow g2 C1.toArray).heap[g]? = some (.cells cur 9 (0, 0)) := by rw [setRow_other _ _ _ _ hgg]; exact hc1
        have hB2 : Below B w (W1.setRow g2 C1.toArray) := hB1'.trans (below_setRow _ _ _ _ hB)
        generalize W1.setRow g2 C1.toArray = W2 at *
        clear hx hsrc hc hC1 hcs hfl hown hcp1 hcp1' hc1 hr1 hx1 hgr
        have hcs2 := hcsW W2.drew hc2
        have hm2 : Nat.min (cap - i) (cap - i) = cap - i := Nat.min_self _
        have hcp2 := run_copy_k W2.drew 33 33 3 9 i0 1 g2 ((i + 1)) (cap - i) (G - (i + 1)) ⟨g, i, none⟩ (cap - i) (cap - i) C1.toArray 9 (flat encS (l.drop i)) Try.underlying33 hi0 hz1 hr2 (by rw [hm2, hdl, Nat.mul_one])
          (fun j u hj => by
            rw [Addr.add_lit]
            rw [← flat_dropS, List.getElem?_drop] at hj
            exact hcs2 _ u hj) (by rw [List.size_toArray, hC1s, hdl]; omega) (flat_one _ _)
        rw [hm2, ← hC2] at hcp2
        clear hC2
        have hG4 : ¬ G = i + 1 := by omega
        (refine region_tail 8 mix ?hB ?_; case hB => kernel_rfl); (simp only [List.take_succ_cons, List.take_zero, List.drop_succ_cons, List.drop_zero]; (iterate 8 (with_reducible refine wpStill_step ?_; intro K hK; go_simp; with_reducible refine hK _ ?_; clear hK K)); with_reducible refine wpStill_nil ?_)
        refine wpList_copy_k rfl _ _ _ _ rfl _ _ rfl rfl _ _ hcp2 ?_
        go_wp2_with fail
        go_ret
        refine ⟨_, rfl, ⟨?_, .inr ⟨g2, G, C2, ?_, hB, setRow_heap W2.drew g2 _ C2 _ _ hr2, ?_, hG2, by rw [k1S]; exact hC2s, ?_⟩⟩, hB2.drew.trans (below_setRow _ _ _ _ hB)⟩
        · rw [flat_lengthS, hlen, k1S]
        · rw [hlen]; rfl
        · rw [hlen]; exact hG1
        · rw [hlen, k1S]; exact hC2t
end Go.Proofs.Ythipnbiilobjeaa
