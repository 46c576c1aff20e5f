/- Contracts of the reading of texts, of both. No condition beyond those stated. -/
import Derived.Test.YtdcljbohoefpcaaDoorPlainS
import Derived.Test.YtdcljbohoefpcaaDoorText
namespace Go.Proofs.YtdcljbohoefpcaaDoor
open Go.RowKit Gol
theorem byte_at (s : ByteArray) (i : Nat) (h : i < s.size) : s.data.toList[i]? = some s[i] := by
  rw [List.getElem?_eq_getElem (by simpa using h)]
  rfl
theorem wrap_add (v p : Nat) (hv : v < 16777216) (hp : p < 28) : wrap64 ((v : Int) + wrap64 (2 ^ p)) = ((v + 2 ^ p : Nat) : Int) := by
  have h : 2 ^ p ≤ 2 ^ 28 := Nat.pow_le_pow_right (by decide) (by omega)
  have e : ((2 : Int) ^ p) = ((2 ^ p : Nat) : Int) := by simp
  rw [e]
  generalize 2 ^ p = q at *
  have e1 : wrap64 (q : Int) = q := by unfold wrap64; omega
  have e2 : wrap64 ((v + q : Nat) : Int) = ((v + q : Nat) : Int) := by unfold wrap64; omega
  rw [e1, ← e2]
  rfl
theorem okc_step {l : List UInt8} {k : Nat} (h : ∀ j, j < k → okc l j) (hk : okc l k) : ∀ j, j < k + 1 → okc l j := fun j hj => by
  by_cases e : j = k
  · rw [e]; exact hk
  · exact h j (by omega)
set_option maxRecDepth 100000 in
set_option maxHeartbeats 2000000 in
theorem specRead_any (s : ByteArray) (W : World) : Calls Tryd.prog 6 #[.string s] W fun e W' => W = W' ∧ ((AllOk s.data.toList ∧ e = .returned (.tuple #[.int .i64 (specV s.data.toList 27), .bool true])) ∨ (¬ AllOk s.data.toList ∧ e = .returned (.tuple #[.int .i64 0, .bool false]))) := by
  by_cases h27 : s.size = 27
  · go_enter Tryd.func6, Tryd.ntmps6
    go_wp2
    go_loop [4, 5] (fun v i => ∃ k : Nat, k ≤ 27 ∧ i = .int .i64 k ∧ v = .int .i64 (specV s.data.toList k) ∧ Hid (∀ j, j < k → okc s.data.toList j)) (fun _ i => 27 - (intOf i).toNat)
    case atStart => exact ⟨0, by omega, rfl, rfl, Lib.hid (fun j hj => absurd hj (Nat.not_lt_zero _))⟩
    case round =>
      obtain ⟨k, hk, rfl, rfl, Hall⟩ := hrel
      by_cases hlt : k < 27
      · have hx := byte_at s k (by omega)
        by_cases hc : k % 7 = 6
        · by_cases hb : s[k] = 47
          · have ht : ((s[k].toNat : Int) != 47) = false := by rw [hb]; rfl
            have Hok : Hid (∀ j, j < k + 1 → okc s.data.toList j) := Lib.hid (okc_step Hall.out ⟨fun _ => by rw [hx, hb], fun h => by omega⟩)
            have Hv : Hid (specV s.data.toList (k + 1) = specV s.data.toList k) := Lib.hid (by rw [specV, if_neg (fun h => by omega)])
            clear hx hb
            go_wp2
            go_round
            case rel => exact ⟨k + 1, by omega, by go_num, by rw [Hv.out], Hok⟩
            case measure => simp [intOf]; omega
          · have ht : ((s[k].toNat : Int) != 47) = true := by rw [bne_iff_ne]; intro h; exact hb (UInt8.toNat_inj.1 (by have h2 : (47 : UInt8).toNat = 47 := rfl; omega))
            have Hno : Hid (¬ AllOk s.data.toList) := Lib.hid (fun h => hb (by have := (h.2 k hlt).1 hc; rw [hx] at this; exact Option.some.inj this))
            clear hx hb
            go_wp2
            go_ret2
            exact ⟨rfl, .inr ⟨Hno.out, rfl⟩⟩
        · have hc6 : (k : Int) % 7 < 6 := by omega
          have hc7 : ¬ (k : Int) % 7 = 6 := by omega
          by_cases hb : s[k] = 120
          · have ht1 : ((s[k].toNat : Int) == 120) = true := by rw [hb]; rfl
            have Hok : Hid (∀ j, j < k + 1 → okc s.data.toList j) := Lib.hid (okc_step Hall.out ⟨fun h => by omega, fun _ => .inl (by rw [hx, hb])⟩)
            have Hv : Hid (specV s.data.toList (k + 1) = specV s.data.toList k + 2 ^ (4 * (k % 7) + k / 7)) := Lib.hid (by rw [specV, if_pos ⟨by omega, by rw [hx, hb]⟩])
            have Hw := Lib.hid (wrap_add (specV s.data.toList k) (4 * (k % 7) + k / 7) (specV_lt _ k hk) (by omega))
            clear hx hb
            go_wp2
            go_round
            case rel => exact ⟨k + 1, by omega, by go_num, by rw [Hv.out, Hw.out], Hok⟩
            case measure => simp [intOf]; omega
          · have ht1 : ((s[k].toNat : Int) == 120) = false := by rw [beq_eq_false_iff_ne]; intro h; exact hb (UInt8.toNat_inj.1 (by have h2 : (120 : UInt8).toNat = 120 := rfl; omega))
            by_cases hd : s[k] = 46
            · have ht2 : ((s[k].toNat : Int) != 46) = false := by rw [hd]; rfl
              have Hok : Hid (∀ j, j < k + 1 → okc s.data.toList j) := Lib.hid (okc_step Hall.out ⟨fun h => by omega, fun _ => .inr (by rw [hx, hd])⟩)
              have Hv : Hid (specV s.data.toList (k + 1) = specV s.data.toList k) := Lib.hid (by rw [specV, if_neg (fun h => by rw [hx] at h; exact hb (Option.some.inj h.2))])
              clear hx hb hd
              go_wp2
              go_round
              case rel => exact ⟨k + 1, by omega, by go_num, by rw [Hv.out], Hok⟩
              case measure => simp [intOf]; omega
            · have ht2 : ((s[k].toNat : Int) != 46) = true := by rw [bne_iff_ne]; intro h; exact hd (UInt8.toNat_inj.1 (by have h2 : (46 : UInt8).toNat = 46 := rfl; omega))
              have Hno : Hid (¬ AllOk s.data.toList) := Lib.hid (fun h => by
                rcases (h.2 k hlt).2 (by omega) with h3 | h3 <;> rw [hx] at h3
                · exact hb (Option.some.inj h3)
                · exact hd (Option.some.inj h3))
              clear hx hb hd
              go_wp2
              go_ret2
              exact ⟨rfl, .inr ⟨Hno.out, rfl⟩⟩
      · have e : k = 27 := by omega
        subst e
        go_wp2
        go_ret2
        exact ⟨rfl, .inl ⟨⟨by simpa using h27, Hall.out⟩, rfl⟩⟩
  · go_enter Tryd.func6, Tryd.ntmps6
    go_wp2
    go_ret2
    exact ⟨rfl, .inr ⟨fun h => h27 (by simpa using h.1), rfl⟩⟩
/-- the rows that a text falls into -/
def rowsOf (s : ByteArray) : List ByteArray := Lib.splitB ⟨#[47]⟩ 0 (Lib.countB s ⟨#[47]⟩) s
theorem rowsOf_len (s : ByteArray) : (rowsOf s).length = Lib.countB s ⟨#[47]⟩ + 1 := Lib.splitB_all ⟨#[47]⟩ (by decide) 0 _ s rfl
def rowsB (s : ByteArray) : List (List UInt8) := (rowsOf s).map (·.data.toList)
theorem rowsB_at (s : ByteArray) (r : Nat) (x : ByteArray) (h : (rowsOf s)[r]? = some x) : (rowsB s)[r]?.getD [] = x.data.toList := by
  unfold rowsB
  rw [List.getElem?_map, h]; rfl
theorem piece_le (sep : ByteArray) : ∀ (k : Nat) (s x : ByteArray), x ∈ Lib.splitB sep 0 k s → x.size ≤ s.size
  | 0, s, x, h => by
    rw [Lib.splitB_zero, List.mem_singleton] at h
    subst h
    exact Nat.le_refl _
  | k + 1, s, x, h => by
    unfold Lib.splitB at h
    split at h
    · rw [List.mem_singleton] at h
      subst h
      exact Nat.le_refl _
    · rw [List.mem_cons] at h
      rcases h with rfl | h
      · rw [ByteArray.size_extract]; omega
      · have := piece_le sep k _ x h
        rw [ByteArray.size_extract] at this
        omega
theorem wrap_or (v p : Nat) (hv : v < 16777216) (hp : p < 28) : bits .or .i64 (v : Int) (wrap64 (2 ^ p)) = ((v ||| 2 ^ p : Nat) : Int) := by
  have h : 2 ^ p ≤ 2 ^ 28 := Nat.pow_le_pow_right (by decide) (by omega)
  have e : ((2 : Int) ^ p) = ((2 ^ p : Nat) : Int) := by simp
  rw [e]
  generalize 2 ^ p = q at *
  have e1 : wrap64 (q : Int) = q := by unfold wrap64; omega
  rw [e1, i64_or v q (by omega) (by omega)]
/-- the word whose marks stand in the rows -/
def markV (s : ByteArray) : Nat := orAll (rowsB s) (rowsOf s).length
set_option maxRecDepth 100000 in
set_option maxHeartbeats 2000000 in
theorem implRead_any (s : ByteArray) (hsz : s.size ≤ 1048576) (m : Int) (W : World) (hm : W.cell? ⟨0, 0, none⟩ = some (.int .i64 m)) : Calls Tryd.prog 7 #[.string s] W fun e W' => Below W.heap.size W W' ∧ ((str (txt (markV s) 4) = s ∧ e = .returned (.tuple #[.int .i64 (markV s), .bool true])) ∨ (str (txt (markV s) 4) ≠ s ∧ e = .returned (.tuple #[.int .i64 0, .bool false]))) := by
  have hct : (rowsOf s).length ≤ 1048577 := by
    rw [rowsOf_len]
    have := Lib.countB_le ⟨#[47]⟩ (by decide) s.size s (Nat.le_refl _)
    omega
  have HW := Lib.hid hsz
  clear hsz
  go_enter Tryd.func7, Tryd.ntmps7
  go_wp2_with (go_at_call 12; refine (Tryd.strings_Split s ⟨#[47]⟩ m W (by have := HW.out; omega) hm (by decide)).mono ?_; rintro e w1 ⟨rfl, hw1⟩; rw [← rowsOf_len] at *; have hcell : Hid (∀ (j : Nat) x, (rowsOf s)[j]? = some x → w1.cell? ⟨W.heap.size, j, none⟩ = some (.string x)) := Lib.hid (fun j x hj => by rw [hw1, World.cell?_alloc_at _ _ _ _ rfl]; unfold rowsOf at hj; simp [hj]); have hb1 : Below W.heap.size W w1 := (by rw [hw1]; exact (Below.refl _ _).alloc (Nat.le_refl _) _); clear hw1)
  go_loop [4, 13] (fun v i => ∃ r : Nat, r ≤ (rowsOf s).length ∧ i = .int .i64 r ∧ v = .int .i64 (orAll (rowsB s) r)) (fun _ i => (rowsOf s).length - (intOf i).toNat)
  case atStart => exact ⟨0, by omega, rfl, rfl⟩
  case round =>
    obtain ⟨r, hr, rfl, rfl⟩ := hrel
    by_cases hlt : r < (rowsOf s).length
    · obtain ⟨x, hx⟩ : ∃ x, (rowsOf s)[r]? = some x := ⟨_, List.getElem?_eq_getElem hlt⟩
      have hc := hcell.out r x hx
      have Hx := Lib.hid (rowsB_at s r x hx)
      have Hvl := Lib.hid (orAll_lt (rowsB s) r)
      have Hnext : Hid (orAll (rowsB s) (r + 1) = orRow r x.data.toList (orAll (rowsB s) r) x.size) := Lib.hid (by rw [orAll, Hx.out]; rw [show x.data.toList.length = x.size by simp])
      have Hxs := Lib.hid (Nat.le_trans (piece_le _ _ _ x (List.mem_of_getElem? hx)) HW.out)
      clear hx
      generalize orAll (rowsB s) r = V at *
      go_wp2
      go_loop [4, 20] (fun v i => ∃ c : Nat, c ≤ x.size ∧ i = .int .i64 c ∧ v = .int .i64 (orRow r x.data.toList V c)) (fun _ i => x.size - (intOf i).toNat)
      case atStart => exact ⟨0, by omega, rfl, rfl⟩
      case round =>
        obtain ⟨c, hcx, rfl, rfl⟩ := hrel
        have hxl := Hxs.out
        by_cases hcl : c < x.size
        · have hb := byte_at x c hcl
          have hlt2 := orRow_lt r x.data.toList V Hvl.out c
          by_cases hx : x[c] = 120
          · have ht : ((x[c].toNat : Int) == 120) = true := by rw [hx]; rfl
            by_cases hr4 : r < 4
            · by_cases hc6 : c < 6
              · have Hs : Hid (orRow r x.data.toList V (c + 1) = orRow r x.data.toList V c ||| 2 ^ (4 * c + r)) := Lib.hid (by rw [orRow, if_pos ⟨by rw [hb, hx], hr4, hc6⟩])
                have Ho := Lib.hid (wrap_or (orRow r x.data.toList V c) (4 * c + r) hlt2 (by omega))
                clear hb hx hlt2
                go_wp2
                go_round
                case rel => exact ⟨c + 1, by omega, by go_num, by rw [Hs.out, Ho.out]⟩
                case measure => simp [intOf]; omega
              · have Hs : Hid (orRow r x.data.toList V (c + 1) = orRow r x.data.toList V c) := Lib.hid (by rw [orRow, if_neg (fun h => hc6 h.2.2)])
                clear hb hx hlt2
                go_wp2
                go_round
                case rel => exact ⟨c + 1, by omega, by go_num, by rw [Hs.out]⟩
                case measure => simp [intOf]; omega
            · have Hs : Hid (orRow r x.data.toList V (c + 1) = orRow r x.data.toList V c) := Lib.hid (by rw [orRow, if_neg (fun h => hr4 h.2.1)])
              clear hb hx hlt2
              go_wp2
              go_round
              case rel => exact ⟨c + 1, by omega, by go_num, by rw [Hs.out]⟩
              case measure => simp [intOf]; omega
          · have ht : ((x[c].toNat : Int) == 120) = false := by rw [beq_eq_false_iff_ne]; intro h; exact hx (UInt8.toNat_inj.1 (by have h2 : (120 : UInt8).toNat = 120 := rfl; omega))
            have Hs : Hid (orRow r x.data.toList V (c + 1) = orRow r x.data.toList V c) := Lib.hid (by rw [orRow, if_neg (fun h => by rw [hb] at h; exact hx (Option.some.inj h.1))])
            clear hb hx hlt2
            go_wp2
            go_round
            case rel => exact ⟨c + 1, by omega, by go_num, by rw [Hs.out]⟩
            case measure => simp [intOf]; omega
        · have e : c = x.size := by omega
          subst e
          rw [← Hnext.out]
          go_wp2
          go_round
          case rel => exact ⟨r + 1, by omega, by go_num, rfl⟩
          case measure => simp [intOf]; omega
    · have e : r = (rowsOf s).length := by omega
      subst e
      have HT := Lib.hid (implText_yes (markV s) (orAll_lt _ _) w1)
      have HM : Hid (orAll (rowsB s) (rowsOf s).length = markV s) := Lib.hid rfl
      rw [HM.out]
      obtain ⟨T, hT0⟩ : ∃ T, str (txt (markV s) 4) = T := ⟨_, rfl⟩
      rw [hT0] at HT
      have HT0 := Lib.hid hT0
      clear hT0
      by_cases hT : T = s
      · have Hne : (T.toList == s.toList) = true := by rw [hT]; exact beq_self_eq_true _
        go_wp2_with fail
        refine HT.out.mono ?_
        rintro e w2 ⟨rfl, hb2⟩
        go_wp2
        go_ret2
        exact ⟨hb1.trans (hb2.mono hb1.size), .inl ⟨HT0.out.trans hT, rfl⟩⟩
      · have Hne : (T.toList == s.toList) = false := by
          rw [beq_eq_false_iff_ne]
          intro h
          rw [Lib.toList_data, Lib.toList_data] at h
          exact hT (ByteArray.ext (Array.ext' h))
        go_wp2_with fail
        refine HT.out.mono ?_
        rintro e w2 ⟨rfl, hb2⟩
        go_wp2
        go_ret2
        exact ⟨hb1.trans (hb2.mono hb1.size), .inr ⟨fun h => hT (HT0.out.symm.trans h), rfl⟩⟩
theorem str_data (l : List UInt8) : (str l).data.toList = l := rfl
theorem str_of (s : ByteArray) (l : List UInt8) (h : s.data.toList = l) : s = str l := by
  apply ByteArray.ext
  apply Array.ext'
  rw [h]
  rfl
theorem rowsB_split (s : ByteArray) : rowsB s = Lib.split s.data.toList [47] := Lib.splitB_data ⟨#[47]⟩ 0 (Lib.countB s ⟨#[47]⟩) s
theorem markV_text (n : Nat) (hn : n < 16777216) : markV (str (txt n 4)) = n := by
  have h1 : rowsB (str (txt n 4)) = rowsL n := by rw [rowsB_split, str_data, split_txt]
  have h2 : (rowsOf (str (txt n 4))).length = 4 := by
    have := congrArg List.length h1
    unfold rowsB at this
    rw [List.length_map] at this
    exact this
  unfold markV
  rw [h1, h2, orAll_text n hn]
def ReadIs (n : Nat) (ok : Bool) (W : World) (e : Ending) (W' : World) : Prop := e = .returned (.tuple #[.int .i64 n, .bool ok]) ∧ Below W.heap.size W W'
/-- both read alike: the word of which it is the text, or no word -/
theorem read_all (s : ByteArray) (hsz : s.size ≤ 1048576) : ∃ n : Nat, ∃ ok : Bool, n < 16777216 ∧ (ok = true → s = str (txt n 4)) ∧ Hid (∀ W, Calls Tryd.prog 6 #[.string s] W (ReadIs n ok W)) ∧ Hid (∀ W m, W.cell? ⟨0, 0, none⟩ = some (.int .i64 m) → Calls Tryd.prog 7 #[.string s] W (ReadIs n ok W)) := by
  by_cases h : AllOk s.data.toList
  · have hn := specV_lt s.data.toList 27 (Nat.le_refl _)
    have hs := str_of s _ (text_of_ok _ h)
    refine ⟨specV s.data.toList 27, true, hn, fun _ => hs, Lib.hid (fun W => ?_), Lib.hid (fun W m hm => ?_)⟩
    · refine (specRead_any s W).mono ?_
      rintro e w' ⟨rfl, h2 | h2⟩
      · exact ⟨h2.2, Below.refl _ _⟩
      · exact absurd h h2.1
    · have hv : markV s = specV s.data.toList 27 := by
        generalize specV s.data.toList 27 = n at *
        subst hs
        exact markV_text n hn
      refine (implRead_any s hsz m W hm).mono ?_
      rintro e w' ⟨hb, h2 | h2⟩
      · rw [hv] at h2
        exact ⟨h2.2, hb⟩
      · rw [hv] at h2
        exact absurd hs.symm h2.1
  · refine ⟨0, false, by decide, (fun e => by cases e), Lib.hid (fun W => ?_), Lib.hid (fun W m hm => ?_)⟩
    · refine (specRead_any s W).mono ?_
      rintro e w' ⟨rfl, h2 | h2⟩
      · exact absurd h2.1 h
      · exact ⟨h2.2, Below.refl _ _⟩
    · refine (implRead_any s hsz m W hm).mono ?_
      rintro e w' ⟨hb, h2 | h2⟩
      · refine absurd ?_ h
        rw [← h2.1, str_data]
        exact ok_of_text _
      · exact ⟨h2.2, hb⟩
/-- what is a text of a word is read as that word -/
theorem read_text (n : Nat) (hn : n < 16777216) (m : Int) (W : World) (hm : W.cell? ⟨0, 0, none⟩ = some (.int .i64 m)) : Calls Tryd.prog 7 #[.string (str (txt n 4))] W (ReadIs n true W) := by
  refine (implRead_any (str (txt n 4)) (by rw [str_size, txt_four]; decide) m W hm).mono ?_
  rw [markV_text n hn]
  rintro e w' ⟨hb, h2 | h2⟩
  · exact ⟨h2.2, hb⟩
  · exact absurd rfl h2.1
end Go.Proofs.YtdcljbohoefpcaaDoor
