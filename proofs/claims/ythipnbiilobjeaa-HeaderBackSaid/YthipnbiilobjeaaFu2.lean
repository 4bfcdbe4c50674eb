/- Numbers and signatures read: what is read of what was written, and back. -/
import Derived.Test.YthipnbiilobjeaaHdRep
import Derived.Test.YthipnbiilobjeaaFu3
namespace Go.Proofs.Ythipnbiilobjeaa
open Go.RowKit Go.Shelf
set_option maxRecDepth 100000

set_option maxHeartbeats 2000000 in
theorem pw_byte (f : Nat → Nat) (hf : ∀ k, f k < 256) (h0 : pw f 32 0 = f 24 * 72057594037927936 + f 25 * 281474976710656 + f 26 * 1099511627776 + f 27 * 4294967296 + f 28 * 16777216 + f 29 * 65536 + f 30 * 256 + f 31)
    (h1 : pw f 32 1 = f 16 * 72057594037927936 + f 17 * 281474976710656 + f 18 * 1099511627776 + f 19 * 4294967296 + f 20 * 16777216 + f 21 * 65536 + f 22 * 256 + f 23)
    (h2 : pw f 32 2 = f 8 * 72057594037927936 + f 9 * 281474976710656 + f 10 * 1099511627776 + f 11 * 4294967296 + f 12 * 16777216 + f 13 * 65536 + f 14 * 256 + f 15)
    (h3 : pw f 32 3 = f 0 * 72057594037927936 + f 1 * 281474976710656 + f 2 * 1099511627776 + f 3 * 4294967296 + f 4 * 16777216 + f 5 * 65536 + f 6 * 256 + f 7) :
    ∀ k, k < 32 → pw f 32 ((31 - k) / 8) / 2 ^ (8 * ((31 - k) % 8)) % 256 = f k
  | 0, _ => by show pw f 32 3 / 72057594037927936 % 256 = f 0; rw [h3]; have := hf 0; have := hf 1; have := hf 2; have := hf 3; have := hf 4; have := hf 5; have := hf 6; have := hf 7; omega
  | 1, _ => by show pw f 32 3 / 281474976710656 % 256 = f 1; rw [h3]; have := hf 0; have := hf 1; have := hf 2; have := hf 3; have := hf 4; have := hf 5; have := hf 6; have := hf 7; omega
  | 2, _ => by show pw f 32 3 / 1099511627776 % 256 = f 2; rw [h3]; have := hf 0; have := hf 1; have := hf 2; have := hf 3; have := hf 4; have := hf 5; have := hf 6; have := hf 7; omega
  | 3, _ => by show pw f 32 3 / 4294967296 % 256 = f 3; rw [h3]; have := hf 0; have := hf 1; have := hf 2; have := hf 3; have := hf 4; have := hf 5; have := hf 6; have := hf 7; omega
  | 4, _ => by show pw f 32 3 / 16777216 % 256 = f 4; rw [h3]; have := hf 0; have := hf 1; have := hf 2; have := hf 3; have := hf 4; have := hf 5; have := hf 6; have := hf 7; omega
  | 5, _ => by show pw f 32 3 / 65536 % 256 = f 5; rw [h3]; have := hf 0; have := hf 1; have := hf 2; have := hf 3; have := hf 4; have := hf 5; have := hf 6; have := hf 7; omega
  | 6, _ => by show pw f 32 3 / 256 % 256 = f 6; rw [h3]; have := hf 0; have := hf 1; have := hf 2; have := hf 3; have := hf 4; have := hf 5; have := hf 6; have := hf 7; omega
  | 7, _ => by show pw f 32 3 / 1 % 256 = f 7; rw [h3]; have := hf 0; have := hf 1; have := hf 2; have := hf 3; have := hf 4; have := hf 5; have := hf 6; have := hf 7; omega
  | 8, _ => by show pw f 32 2 / 72057594037927936 % 256 = f 8; rw [h2]; have := hf 8; have := hf 9; have := hf 10; have := hf 11; have := hf 12; have := hf 13; have := hf 14; have := hf 15; omega
  | 9, _ => by show pw f 32 2 / 281474976710656 % 256 = f 9; rw [h2]; have := hf 8; have := hf 9; have := hf 10; have := hf 11; have := hf 12; have := hf 13; have := hf 14; have := hf 15; omega
  | 10, _ => by show pw f 32 2 / 1099511627776 % 256 = f 10; rw [h2]; have := hf 8; have := hf 9; have := hf 10; have := hf 11; have := hf 12; have := hf 13; have := hf 14; have := hf 15; omega
  | 11, _ => by show pw f 32 2 / 4294967296 % 256 = f 11; rw [h2]; have := hf 8; have := hf 9; have := hf 10; have := hf 11; have := hf 12; have := hf 13; have := hf 14; have := hf 15; omega
  | 12, _ => by show pw f 32 2 / 16777216 % 256 = f 12; rw [h2]; have := hf 8; have := hf 9; have := hf 10; have := hf 11; have := hf 12; have := hf 13; have := hf 14; have := hf 15; omega
  | 13, _ => by show pw f 32 2 / 65536 % 256 = f 13; rw [h2]; have := hf 8; have := hf 9; have := hf 10; have := hf 11; have := hf 12; have := hf 13; have := hf 14; have := hf 15; omega
  | 14, _ => by show pw f 32 2 / 256 % 256 = f 14; rw [h2]; have := hf 8; have := hf 9; have := hf 10; have := hf 11; have := hf 12; have := hf 13; have := hf 14; have := hf 15; omega
  | 15, _ => by show pw f 32 2 / 1 % 256 = f 15; rw [h2]; have := hf 8; have := hf 9; have := hf 10; have := hf 11; have := hf 12; have := hf 13; have := hf 14; have := hf 15; omega
  | 16, _ => by show pw f 32 1 / 72057594037927936 % 256 = f 16; rw [h1]; have := hf 16; have := hf 17; have := hf 18; have := hf 19; have := hf 20; have := hf 21; have := hf 22; have := hf 23; omega
  | 17, _ => by show pw f 32 1 / 281474976710656 % 256 = f 17; rw [h1]; have := hf 16; have := hf 17; have := hf 18; have := hf 19; have := hf 20; have := hf 21; have := hf 22; have := hf 23; omega
  | 18, _ => by show pw f 32 1 / 1099511627776 % 256 = f 18; rw [h1]; have := hf 16; have := hf 17; have := hf 18; have := hf 19; have := hf 20; have := hf 21; have := hf 22; have := hf 23; omega
  | 19, _ => by show pw f 32 1 / 4294967296 % 256 = f 19; rw [h1]; have := hf 16; have := hf 17; have := hf 18; have := hf 19; have := hf 20; have := hf 21; have := hf 22; have := hf 23; omega
  | 20, _ => by show pw f 32 1 / 16777216 % 256 = f 20; rw [h1]; have := hf 16; have := hf 17; have := hf 18; have := hf 19; have := hf 20; have := hf 21; have := hf 22; have := hf 23; omega
  | 21, _ => by show pw f 32 1 / 65536 % 256 = f 21; rw [h1]; have := hf 16; have := hf 17; have := hf 18; have := hf 19; have := hf 20; have := hf 21; have := hf 22; have := hf 23; omega
  | 22, _ => by show pw f 32 1 / 256 % 256 = f 22; rw [h1]; have := hf 16; have := hf 17; have := hf 18; have := hf 19; have := hf 20; have := hf 21; have := hf 22; have := hf 23; omega
  | 23, _ => by show pw f 32 1 / 1 % 256 = f 23; rw [h1]; have := hf 16; have := hf 17; have := hf 18; have := hf 19; have := hf 20; have := hf 21; have := hf 22; have := hf 23; omega
  | 24, _ => by show pw f 32 0 / 72057594037927936 % 256 = f 24; rw [h0]; have := hf 24; have := hf 25; have := hf 26; have := hf 27; have := hf 28; have := hf 29; have := hf 30; have := hf 31; omega
  | 25, _ => by show pw f 32 0 / 281474976710656 % 256 = f 25; rw [h0]; have := hf 24; have := hf 25; have := hf 26; have := hf 27; have := hf 28; have := hf 29; have := hf 30; have := hf 31; omega
  | 26, _ => by show pw f 32 0 / 1099511627776 % 256 = f 26; rw [h0]; have := hf 24; have := hf 25; have := hf 26; have := hf 27; have := hf 28; have := hf 29; have := hf 30; have := hf 31; omega
  | 27, _ => by show pw f 32 0 / 4294967296 % 256 = f 27; rw [h0]; have := hf 24; have := hf 25; have := hf 26; have := hf 27; have := hf 28; have := hf 29; have := hf 30; have := hf 31; omega
  | 28, _ => by show pw f 32 0 / 16777216 % 256 = f 28; rw [h0]; have := hf 24; have := hf 25; have := hf 26; have := hf 27; have := hf 28; have := hf 29; have := hf 30; have := hf 31; omega
  | 29, _ => by show pw f 32 0 / 65536 % 256 = f 29; rw [h0]; have := hf 24; have := hf 25; have := hf 26; have := hf 27; have := hf 28; have := hf 29; have := hf 30; have := hf 31; omega
  | 30, _ => by show pw f 32 0 / 256 % 256 = f 30; rw [h0]; have := hf 24; have := hf 25; have := hf 26; have := hf 27; have := hf 28; have := hf 29; have := hf 30; have := hf 31; omega
  | 31, _ => by show pw f 32 0 / 1 % 256 = f 31; rw [h0]; have := hf 24; have := hf 25; have := hf 26; have := hf 27; have := hf 28; have := hf 29; have := hf 30; have := hf 31; omega
  | k + 32, h => by omega

theorem pU_word (f : Nat → Nat) (i : Nat) {q : Nat} (hq : q < 4) : wordAt (pU f i) q = (pw f i q : Int) := by
  have : q = 0 ∨ q = 1 ∨ q = 2 ∨ q = 3 := by omega
  rcases this with rfl | rfl | rfl | rfl <;> rfl
theorem bytesU_fromU (s : ByteArray) (hs : s.size = 32) : bytesU (fromU s) = s := by
  refine bl_inj ?_
  show (fillL (byteAt (fromU s)) 32 32).toArray.toList = bl s
  rw [fillL_full, List.toList_toArray]
  refine List.ext_getElem (by rw [List.length_map, List.length_range, bl_length, hs]) (fun k h1 h2 => ?_)
  have hk : k < 32 := by simpa using h1
  obtain ⟨g0, g1, g2, g3⟩ := pw_full (byF s)
  have hb := pw_byte (byF s) (byF_lt s) g0 g1 g2 g3 k hk
  have e1 : ((pw (byF s) 32 ((31 - k) / 8) : Int) / 2 ^ (8 * ((31 - k) % 8)) % 256).toNat = byF s k := by
    have : (pw (byF s) 32 ((31 - k) / 8) : Int) / 2 ^ (8 * ((31 - k) % 8)) % 256 = ((pw (byF s) 32 ((31 - k) / 8) / 2 ^ (8 * ((31 - k) % 8)) % 256 : Nat) : Int) := by push_cast; rfl
    rw [this, hb]; rfl
  rw [List.getElem_map, List.getElem_range]
  unfold byteAt
  unfold fromU
  rw [pU_word _ _ (by omega), e1]
  unfold byF
  rw [UInt8.ofNat_toNat, List.getD_eq_getElem?_getD, List.getElem?_eq_getElem h2]
  rfl
theorem fromU_bytesU {a : U4} (ha : a.ok) : fromU (bytesU a) = a := bytesU_inj (fromU_ok _) ha (bytesU_fromU _ (bytesU_size a))

theorem last_one {α : Type} : ∀ (n : Nat) (l : List α) (d : α), l.length = n + 1 → l.drop n = [l.getD n d]
  | 0, [a], _, _ => rfl
  | n + 1, a :: l, d, h => by
    rw [List.drop_succ_cons, last_one n l d (by simpa using h)]
    rfl
theorem sealB_from {s : ByteArray} (hs : s.size = 65) (h : sigOk (sgFrom s) = true) : sealB (sgFrom s) = s := by
  unfold sealB
  rw [if_pos h]
  unfold sigBytes sgFrom
  simp only [bytesU_fromU _ (show (s.extract 0 32).size = 32 by rw [extract_size (by omega)]), bytesU_fromU _ (show (s.extract 32 64).size = 32 by rw [extract_size (by omega)])]
  refine bl_inj ?_
  rw [bl_app, bl_app, bl_extract, bl_extract]
  have hl : (bl s).length = 65 := by rw [bl_length, hs]
  have e1 : bl (⟨#[UInt8.ofNat ((((bl s).getD 64 0).toNat : Int)).toNat]⟩ : ByteArray) = (bl s).drop 64 := by
    rw [last_one 64 (bl s) 0 hl]
    show [UInt8.ofNat ((((bl s).getD 64 0).toNat : Int)).toNat] = _
    rw [Int.toNat_natCast, UInt8.ofNat_toNat]
  rw [e1, List.drop_zero]
  have e2 : ((bl s).take 64).drop 32 = ((bl s).drop 32).take 32 := by rw [List.drop_take]
  rw [e2, ← List.take_add, List.take_append_drop]
theorem sealB_ok {g : Sg} (h : sigOk g = true) : sealB g = bytesU g.1 ++ bytesU g.2.1 ++ ⟨#[UInt8.ofNat g.2.2.toNat]⟩ := by
  unfold sealB
  rw [if_pos h]
  rfl
theorem from_sealB {g : Sg} (ho : g.ok) (h : sigOk g = true) : sgFrom (sealB g) = g := by
  have hv := sigOk_v h
  obtain ⟨a, b, v⟩ := g
  have z1 : (bl (bytesU a)).length = 32 := by rw [bl_length, bytesU_size]
  have z2 : (bl (bytesU b)).length = 32 := by rw [bl_length, bytesU_size]
  have hb : bl (sealB (a, b, v)) = bl (bytesU a) ++ (bl (bytesU b) ++ [UInt8.ofNat v.toNat]) := by
    rw [sealB_ok h, bl_app, bl_app, List.append_assoc]
    rfl
  unfold sgFrom
  have e1 : (sealB (a, b, v)).extract 0 32 = bytesU a := bl_inj (by
    rw [bl_extract, hb, List.take_append_of_le_length (by omega), List.take_of_length_le (by omega), List.drop_zero])
  have e2 : (sealB (a, b, v)).extract 32 64 = bytesU b := bl_inj (by
    rw [bl_extract, hb, List.drop_take, List.drop_append_of_le_length (by omega), List.drop_of_length_le (by omega), List.nil_append, List.take_append_of_le_length (by omega), List.take_of_length_le (by omega)])
  have e3 : (bl (sealB (a, b, v))).getD 64 0 = UInt8.ofNat v.toNat := by
    rw [hb, List.getD_eq_getElem?_getD, List.getElem?_append_right (by omega), List.getElem?_append_right (by omega), z1, z2]
    rfl
  rw [e1, e2, e3, fromU_bytesU ho.1, fromU_bytesU ho.2]
  simp only at hv
  rcases hv with rfl | rfl <;> rfl
end Go.Proofs.Ythipnbiilobjeaa
