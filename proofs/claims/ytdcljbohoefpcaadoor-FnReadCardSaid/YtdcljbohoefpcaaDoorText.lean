/- Contracts of the texts of words, of both. No condition beyond those stated. -/
import Derived.Test.YtdcljbohoefpcaaDoorTextW
import Derived.Test.YtdcljbohoefpcaaDoorPlainT
import Derived.Test.YtdcljbohoefpcaaDoorWords1
import Derived.Test.YtdcljbohoefpcaaDoorShelf
namespace Go.Proofs.YtdcljbohoefpcaaDoor
open Go.RowKit Gol
def TextIs (s : ByteArray) (ok : Bool) (W : World) (e : Ending) (W' : World) : Prop := e = .returned (.tuple #[.string s, .bool ok]) ∧ Below W.heap.size W W'
/-- the text so far: the first r rows, a stroke where there is a row ahead, and the first c signs of the next one -/
def part (n r c : Nat) : List UInt8 := txt n r ++ (if r = 0 then [] else [47]) ++ rowT n r c
theorem part_step (n r c : Nat) : part n r (c + 1) = part n r c ++ [ch n (4 * c + r)] := by simp [part, rowT]
theorem part_end (n r : Nat) : part n r 6 = txt n (r + 1) := rfl
theorem part_len (n r c : Nat) (hr : r < 4) (hc : c ≤ 6) : (part n r c).length ≤ 100 := by
  have := txt_len n r
  unfold part
  rw [List.length_append, List.length_append, rowT_len]
  split <;> simp <;> omega
def str (l : List UInt8) : ByteArray := ⟨l.toArray⟩
theorem str_add (l m : List UInt8) : str l ++ str m = str (l ++ m) := str_app l m
theorem str_size (l : List UInt8) : (str l).size = l.length := by simp [str, ByteArray.size]
set_option maxRecDepth 100000 in
set_option maxHeartbeats 2000000 in
theorem specText_yes (n : Nat) (hn : n < 16777216) (W : World) : Calls Tryd.prog 10 #[.int .i64 n] W (TextIs (str (txt n 4)) true W) := by
  have h0 : (0 : Int) ≤ n := by omega
  have h1 : (n : Int) ≤ 16777215 := by omega
  have Hn := Lib.hid hn
  clear hn
  go_enter Tryd.func10, Tryd.ntmps10
  go_wp2
  clear h0 h1
  go_loop [4, 5] (fun s i => ∃ r : Nat, r ≤ 4 ∧ i = .int .i64 r ∧ s = .string (str (txt n r))) (fun _ i => 4 - (intOf i).toNat)
  case atStart => exact ⟨0, by omega, rfl, rfl⟩
  case round =>
    obtain ⟨r, hr, rfl, rfl⟩ := hrel
    by_cases hlt : r < 4
    · have Hz : Hid (r = 0 → str (txt n r) = str (part n r 0)) := Lib.hid (fun e => by subst e; rfl)
      have Hp : Hid (r ≠ 0 → str (txt n r) ++ ⟨#[47]⟩ = str (part n r 0)) := Lib.hid (fun e => by
        have h := str_add (txt n r) [47]
        have e2 : part n r 0 = txt n r ++ [47] := by simp [part, rowT, e]
        rw [e2]; exact h)
      have hsz : (str (txt n r)).size ≤ 100 := by rw [str_size]; have := txt_len n r; omega
      obtain ⟨S, hS⟩ : ∃ S, str (txt n r) = S := ⟨_, rfl⟩
      obtain ⟨T, hT⟩ : ∃ T, str (part n r 0) = T := ⟨_, rfl⟩
      rw [hS] at Hz Hp hsz ⊢
      rw [hT] at Hz Hp
      have HT := Lib.hid hT
      clear hS hT
      by_cases r0 : r = 0
      · have hST := Hz.out r0
        subst hST
        have hr0 : ¬ (0 : Int) < (r : Int) := by omega
        clear Hz Hp r0
        go_wp2
        go_loop [4, 6] (fun s i => ∃ c : Nat, c ≤ 6 ∧ i = .int .i64 c ∧ s = .string (str (part n r c))) (fun _ i => 6 - (intOf i).toNat)
        case atStart => exact ⟨0, by omega, rfl, by rw [HT.out]⟩
        case round =>
          obtain ⟨c, hc, rfl, rfl⟩ := hrel
          by_cases hc6 : c < 6
          · have hb : Hid (bitN (n : Int).toNat (4 * (c : Int) + (r : Int)).toNat = bitN n (4 * c + r)) := Lib.hid (by rw [show (4 * (c : Int) + (r : Int)).toNat = 4 * c + r by omega, Int.toNat_natCast])
            have hsz2 : (str (part n r c)).size ≤ 100 := by rw [str_size]; exact part_len n r c hlt hc
            have hb2 := bitN_lt n (4 * c + r)
            have Hx : Hid (bitN n (4 * c + r) = 1 → str (part n r c) ++ ⟨#[120]⟩ = str (part n r (c + 1))) := Lib.hid (fun e => by
              have h := str_add (part n r c) [120]
              rw [part_step, ch, if_pos e]
              exact h)
            have Hd : Hid (bitN n (4 * c + r) ≠ 1 → str (part n r c) ++ ⟨#[46]⟩ = str (part n r (c + 1))) := Lib.hid (fun e => by
              have h := str_add (part n r c) [46]
              rw [part_step, ch, if_neg e]
              exact h)
            generalize bitN n (4 * c + r) = b at *
            obtain ⟨S2, hS2⟩ : ∃ S2, str (part n r c) = S2 := ⟨_, rfl⟩
            obtain ⟨T2, hT2⟩ : ∃ T2, str (part n r (c + 1)) = T2 := ⟨_, rfl⟩
            rw [hS2] at hsz2 Hx Hd ⊢
            rw [hT2] at Hx Hd
            have HT2 := Lib.hid hT2
            clear hS2 hT2
            by_cases b1 : b = 1
            · have hcat := Hx.out b1
              subst b1
              clear Hx Hd
              go_wp2_with (go_at_call 18; refine (l1Bit_any _ _ (by omega) (by have := Hn.out; omega) (by omega) (by omega) _).mono ?_; rintro e w' ⟨rfl, rfl⟩; simp only [hb.out])
              go_round
              case rel => exact ⟨c + 1, by omega, by go_num, by rw [HT2.out]⟩
              case measure => simp [intOf]; omega
            · have hcat := Hd.out b1
              have b0 : b = 0 := by omega
              subst b0
              clear Hx Hd b1
              go_wp2_with (go_at_call 18; refine (l1Bit_any _ _ (by omega) (by have := Hn.out; omega) (by omega) (by omega) _).mono ?_; rintro e w' ⟨rfl, rfl⟩; simp only [hb.out])
              go_round
              case rel => exact ⟨c + 1, by omega, by go_num, by rw [HT2.out]⟩
              case measure => simp [intOf]; omega
          · have e : c = 6 := by omega
            subst e
            go_wp2
            go_round
            case rel => exact ⟨r + 1, by omega, by go_num, by rw [part_end]⟩
            case measure => simp [intOf]; omega
      · have hST := Hp.out r0
        have hr0 : (0 : Int) < (r : Int) := by omega
        clear Hz Hp r0
        go_wp2
        go_loop [4, 6] (fun s i => ∃ c : Nat, c ≤ 6 ∧ i = .int .i64 c ∧ s = .string (str (part n r c))) (fun _ i => 6 - (intOf i).toNat)
        case atStart => exact ⟨0, by omega, rfl, by rw [HT.out]⟩
        case round =>
          obtain ⟨c, hc, rfl, rfl⟩ := hrel
          by_cases hc6 : c < 6
          · have hb : Hid (bitN (n : Int).toNat (4 * (c : Int) + (r : Int)).toNat = bitN n (4 * c + r)) := Lib.hid (by rw [show (4 * (c : Int) + (r : Int)).toNat = 4 * c + r by omega, Int.toNat_natCast])
            have hsz2 : (str (part n r c)).size ≤ 100 := by rw [str_size]; exact part_len n r c hlt hc
            have hb2 := bitN_lt n (4 * c + r)
            have Hx : Hid (bitN n (4 * c + r) = 1 → str (part n r c) ++ ⟨#[120]⟩ = str (part n r (c + 1))) := Lib.hid (fun e => by
              have h := str_add (part n r c) [120]
              rw [part_step, ch, if_pos e]
              exact h)
            have Hd : Hid (bitN n (4 * c + r) ≠ 1 → str (part n r c) ++ ⟨#[46]⟩ = str (part n r (c + 1))) := Lib.hid (fun e => by
              have h := str_add (part n r c) [46]
              rw [part_step, ch, if_neg e]
              exact h)
            generalize bitN n (4 * c + r) = b at *
            obtain ⟨S2, hS2⟩ : ∃ S2, str (part n r c) = S2 := ⟨_, rfl⟩
            obtain ⟨T2, hT2⟩ : ∃ T2, str (part n r (c + 1)) = T2 := ⟨_, rfl⟩
            rw [hS2] at hsz2 Hx Hd ⊢
            rw [hT2] at Hx Hd
            have HT2 := Lib.hid hT2
            clear hS2 hT2
            by_cases b1 : b = 1
            · have hcat := Hx.out b1
              subst b1
              clear Hx Hd
              go_wp2_with (go_at_call 18; refine (l1Bit_any _ _ (by omega) (by have := Hn.out; omega) (by omega) (by omega) _).mono ?_; rintro e w' ⟨rfl, rfl⟩; simp only [hb.out])
              go_round
              case rel => exact ⟨c + 1, by omega, by go_num, by rw [HT2.out]⟩
              case measure => simp [intOf]; omega
            · have hcat := Hd.out b1
              have b0 : b = 0 := by omega
              subst b0
              clear Hx Hd b1
              go_wp2_with (go_at_call 18; refine (l1Bit_any _ _ (by omega) (by have := Hn.out; omega) (by omega) (by omega) _).mono ?_; rintro e w' ⟨rfl, rfl⟩; simp only [hb.out])
              go_round
              case rel => exact ⟨c + 1, by omega, by go_num, by rw [HT2.out]⟩
              case measure => simp [intOf]; omega
          · have e : c = 6 := by omega
            subst e
            go_wp2
            go_round
            case rel => exact ⟨r + 1, by omega, by go_num, by rw [part_end]⟩
            case measure => simp [intOf]; omega
    · have e : r = 4 := by omega
      subst e
      go_wp2
      go_ret2
      exact ⟨rfl, Below.refl _ _⟩
/-- the bytes of a row, as values -/
def byteV (l : List UInt8) : List Value := l.map fun b => .int .u8 (b.toNat : Int)
theorem byteV_len (l : List UInt8) : (byteV l).length = l.length := List.length_map ..
theorem byteV_add (l : List UInt8) (b : UInt8) : byteV l ++ [.int .u8 (b.toNat : Int)] = byteV (l ++ [b]) := by simp [byteV]
def strV (xs : List ByteArray) : List Value := xs.map Value.string
theorem strV_len (xs : List ByteArray) : (strV xs).length = xs.length := List.length_map ..
theorem strV_add (xs : List ByteArray) (b : ByteArray) : strV xs ++ [.string b] = strV (xs ++ [b]) := by simp [strV]
def OwnsV (w : World) (B : Nat) (e : TypeId) (v : Value) (xs : List Value) : Prop := w.ownsRow B e 1 v xs.length xs
theorem OwnsV.made (w : World) (B : Nat) (e : TypeId) (h : B ≤ w.heap.size) : OwnsV (w.alloc (.cells #[] e)) B e (.slice (some ⟨w.heap.size, 0, none⟩) 0 0) [] := World.ownsRow_made w #[] 0 h (by decide) rfl
theorem OwnsV.kept {w w' : World} {B : Nat} {e : TypeId} {v : Value} {xs : List Value} (h : OwnsV w B e v xs) (hb : Below w.heap.size w w') : OwnsV w' B e v xs := row_kept h hb
/-- what the conversion of a row of bytes gives -/
theorem conv_row {w : World} {B : Nat} {v : Value} {l : List UInt8} (h : OwnsV w B 5 v (byteV l)) (hn : l.length ≠ 0) : (convert 25 9 v).run Tryd.prog w = .ok (.string (str l)) w := by
  obtain ⟨g, cap, rfl, _, hlt, _, hc⟩ := row_cells (xs := byteV l) h (by rw [byteV_len]; exact hn)
  rw [byteV_len]
  exact run_convert_bytes_back w _ _ 5 ⟨g, 0, none⟩ cap l Tryd.underlying25 Tryd.underlying5 Tryd.underlying9 (fun j hj => by
    have e : (⟨g, 0, none⟩ : Addr).add j = ⟨g, j, none⟩ := by unfold Addr.add; split <;> simp_all
    rw [e]
    exact hc j _ (by simp [byteV, hj]))
theorem rowsT_succ (n r : Nat) : strV (rowsT n r) ++ [.string (str (rowT n r 6))] = strV (rowsT n (r + 1)) := by rw [strV_add]; rfl
set_option maxRecDepth 100000 in
set_option maxHeartbeats 2000000 in
theorem implText_yes (n : Nat) (hn : n < 16777216) (W : World) : Calls Tryd.prog 9 #[.int .i64 n] W (TextIs (str (txt n 4)) true W) := by
  have h0 : (0 : Int) ≤ n := by omega
  have h1 : (n : Int) ≤ 16777215 := by omega
  have Hn := Lib.hid hn
  clear hn
  go_enter Tryd.func9, Tryd.ntmps9
  go_wp2
  go_simp
  clear h0 h1
  go_loopw [4, 12] (fun v i wr => ∃ r : Nat, r ≤ 4 ∧ i = .int .i64 r ∧ OwnsV wr W.heap.size 9 v (strV (rowsT n r)) ∧ Below W.heap.size W wr) (fun _ i _ => 4 - (intOf i).toNat)
  case atStart => exact ⟨0, by omega, rfl, OwnsV.made _ _ _ (Nat.le_refl _), (Below.refl _ _).alloc (Nat.le_refl _) _⟩
  case round =>
    obtain ⟨r, hr, rfl, hown, hbel⟩ := hrel
    have Hown := Lib.hid hown
    have Hbel := Lib.hid hbel
    clear hown hbel
    obtain ⟨w0, hw0⟩ : ∃ w, w = wr := ⟨_, rfl⟩
    subst hw0
    by_cases hlt : r < 4
    · go_wp2
      simp only [show decide ((r : Int) < 4) = true from decide_eq_true (by omega)]
      go_loopw [6, 16] (fun u i w2 => ∃ c : Nat, c ≤ 6 ∧ i = .int .i64 c ∧ OwnsV w2 w0.heap.size 5 u (byteV (rowT n r c)) ∧ Below w0.heap.size w0 w2) (fun _ i _ => 6 - (intOf i).toNat)
      case atStart => exact ⟨0, by omega, rfl, OwnsV.made _ _ _ (Nat.le_refl _), (Below.refl _ _).alloc (Nat.le_refl _) _⟩
      case round =>
        obtain ⟨c, hc, rfl, hrow, hbr⟩ := hrel
        by_cases hc6 : c < 6
        · have hsh := shr_bit n (4 * c + r) (by have := Hn.out; omega)
          have hb2 := bitN_lt n (4 * c + r)
          have Hst : Hid (byteV (rowT n r c) ++ [.int .u8 ((ch n (4 * c + r)).toNat : Int)] = byteV (rowT n r (c + 1))) := Lib.hid (byteV_add _ _)
          have hlen : Hid ((byteV (rowT n r c)).length ≤ 1000000) := Lib.hid (by rw [byteV_len, rowT_len]; omega)
          have Hch : Hid ((bitN n (4 * c + r) = 1 → (ch n (4 * c + r)).toNat = 120) ∧ (bitN n (4 * c + r) ≠ 1 → (ch n (4 * c + r)).toNat = 46)) := Lib.hid ⟨fun e => by rw [ch, if_pos e]; rfl, fun e => by rw [ch, if_neg e]; rfl⟩
          generalize bitN n (4 * c + r) = b at *
          generalize (ch n (4 * c + r)).toNat = z at *
          by_cases b1 : b = 1
          · have hz := Hch.out.1 b1
            subst b1 hz
            have Hst1 : Hid (byteV (rowT n r c) ++ [.int .u8 120] = byteV (rowT n r (c + 1))) := Lib.hid Hst.out
            clear Hch Hst
            go_wp2_with (first | (at_builtin; refine wpList_append_gen rfl _ _ 25 5 (.int .u8 0) 1 Tryd.underlying25 infoByte rfl (by decide) rfl w0 w0.heap.size _ _ (.int .u8 120) rfl wr.heap.size rfl (by rfl) (by rfl) hrow hbr (Nat.le_refl _) hlen.out ?_; intro v1 w3 hown1 hbel1) | go_in)
            go_roundw
            case rel => exact ⟨c + 1, by omega, by go_num, by rw [← Hst1.out]; exact hown1, hbel1⟩
            case measure => simp [intOf]; omega
          · have hz := Hch.out.2 b1
            have b0 : b = 0 := by omega
            subst b0 hz
            have Hst1 : Hid (byteV (rowT n r c) ++ [.int .u8 46] = byteV (rowT n r (c + 1))) := Lib.hid Hst.out
            clear Hch Hst b1
            go_wp2_with (first | (at_builtin; refine wpList_append_gen rfl _ _ 25 5 (.int .u8 0) 1 Tryd.underlying25 infoByte rfl (by decide) rfl w0 w0.heap.size _ _ (.int .u8 46) rfl wr.heap.size rfl (by rfl) (by rfl) hrow hbr (Nat.le_refl _) hlen.out ?_; intro v1 w3 hown1 hbel1) | go_in)
            go_roundw
            case rel => exact ⟨c + 1, by omega, by go_num, by rw [← Hst1.out]; exact hown1, hbel1⟩
            case measure => simp [intOf]; omega
        · have e : c = 6 := by omega
          subst e
          have hcv := conv_row hrow (by rw [rowT_len]; decide)
          have Hrow2 := Lib.hid (Hown.out.kept hbr)
          have Hb2 := Lib.hid (Hbel.out.trans (hbr.mono Hbel.out.size))
          have hlen : Hid ((strV (rowsT n r)).length ≤ 1000000) := Lib.hid (by rw [strV_len, rowsT_len]; omega)
          have Hs := Lib.hid (rowsT_succ n r)
          generalize str (rowT n r 6) = S at *
          clear hrow
          go_wp2_with (first | (at_builtin; refine wpList_append_gen rfl _ _ 31 9 (.string ByteArray.empty) 16 Tryd.underlying31 infoStr rfl (by decide) rfl W W.heap.size _ _ (.string S) rfl wr.heap.size rfl (by rfl) (by rfl) Hrow2.out Hb2.out (Nat.le_refl _) hlen.out ?_; intro v1 w3 hown1 hbel1) | go_in)
          go_roundw
          case rel => exact ⟨r + 1, by omega, by go_num, by rw [← Hs.out]; exact hown1, hbel1⟩
          case measure => simp [intOf]; omega
    · have e : r = 4 := by omega
      subst e
      obtain ⟨g, cap, rfl, _, hg, hcap, hc⟩ := row_cells (xs := strV (rowsT n 4)) Hown.out (by rw [strV_len, rowsT_len]; decide)
      rw [strV_len] at hcap ⊢
      have HJ := Lib.hid (Tryd.strings_Join g 0 cap (rowsT n 4) ⟨#[47]⟩ w0 (fun j x hj => by rw [Nat.zero_add]; exact hc j _ (by simp [strV, hj])) hg (by rw [rowsT_len]; decide) hcap (by
        have h1 := join_rows n
        have h2 : ((⟨#[47]⟩ : ByteArray).data.toList) = [47] := rfl
        rw [h2, h1, txt_four]
        decide))
      have HE : Hid ((⟨(Go.Lib.join ((rowsT n 4).map (·.data.toList)) ((⟨#[47]⟩ : ByteArray).data.toList)).toArray⟩ : ByteArray) = str (txt n 4)) := Lib.hid (by
        have h1 := join_rows n
        have h2 : ((⟨#[47]⟩ : ByteArray).data.toList) = [47] := rfl
        rw [h2, h1]
        rfl)
      clear hc hcap
      go_wp2_with fail
      refine HJ.out.mono ?_
      rintro e w2 ⟨rfl, hb2⟩
      rw [HE.out]
      go_wp2
      go_ret2
      exact ⟨rfl, Hbel.out.trans (hb2.mono Hbel.out.size)⟩
theorem text_all (w : Int) : ∃ s : ByteArray, ∃ ok : Bool, Hid (∀ W, Calls Tryd.prog 10 #[.int .i64 w] W (TextIs s ok W)) ∧ Hid (∀ W, Calls Tryd.prog 9 #[.int .i64 w] W (TextIs s ok W)) := by
  by_cases hw : IsW w
  · obtain ⟨n, rfl, hn⟩ := hw.of
    exact ⟨_, true, Lib.hid (specText_yes n hn), Lib.hid (implText_yes n hn)⟩
  · refine ⟨str [], false, Lib.hid (fun W => ?_), Lib.hid (fun W => ?_)⟩
    · by_cases h0 : 0 ≤ w
      · have h1 : ¬ w ≤ 16777215 := fun h => hw ⟨h0, by omega⟩
        clear hw
        go_enter Tryd.func10, Tryd.ntmps10
        go_wp2
        go_ret2
        exact ⟨rfl, Below.refl _ _⟩
      · clear hw
        go_enter Tryd.func10, Tryd.ntmps10
        go_wp2
        go_ret2
        exact ⟨rfl, Below.refl _ _⟩
    · by_cases h0 : 0 ≤ w
      · have h1 : ¬ w ≤ 16777215 := fun h => hw ⟨h0, by omega⟩
        clear hw
        go_enter Tryd.func9, Tryd.ntmps9
        go_wp2
        go_ret2
        exact ⟨rfl, Below.refl _ _⟩
      · clear hw
        go_enter Tryd.func9, Tryd.ntmps9
        go_wp2
        go_ret2
        exact ⟨rfl, Below.refl _ _⟩
end Go.Proofs.YtdcljbohoefpcaaDoor
