/- Contracts of the distance from the code, of the nearest words and of mending, of both. No condition beyond those stated. -/
import Derived.Test.YtompdebingllmaaNear2
import Derived.Test.YtompdebingllmaaCodeOf
namespace Go.Proofs.Ytompdebingllmaa
open Go.RowKit Gol
def FarIs (x : Int) (W : World) (e : Ending) (W' : World) : Prop := e = .returned (.int .i64 x) ∧ Below W.heap.size W W'
set_option maxHeartbeats 1000000 in
theorem implFar_of (n : Nat) (hn : n < 16777216) (L : List Nat) (f : Nat) (HN : ∀ W, Calls Try.prog 51 #[.int .i64 n] W (RetNear W.heap.size (ints L) f W)) (W : World) :
    Calls Try.prog 26 #[.int .i64 n] W (FarIs f W) := by
  have h0 : (0 : Int) ≤ n := by omega
  have h1 : (n : Int) ≤ 16777215 := by omega
  have H := Lib.hid HN
  clear HN hn
  go_enter Try.func26, Try.ntmps26
  go_wp2_with (first | (go_at_call 51; refine (H.out _).mono ?_; rintro e w1 ⟨a, cap, rfl, hown, hbel⟩) | go_in)
  go_ret
  exact ⟨rfl, hbel⟩
theorem implCodeFar_no (w : Int) (hw : ¬ IsW w) (W : World) : Calls Try.prog 26 #[.int .i64 w] W (FarIs (-1) W) := by
  by_cases h0 : 0 ≤ w
  · have h1 : ¬ w ≤ 16777215 := fun h => hw ⟨h0, by omega⟩
    clear hw
    go_enter Try.func26, Try.ntmps26
    go_wp2
    go_ret
    exact ⟨rfl, Below.refl _ _⟩
  · clear hw
    go_enter Try.func26, Try.ntmps26
    go_wp2
    go_ret
    exact ⟨rfl, Below.refl _ _⟩
set_option maxHeartbeats 1000000 in
theorem implNear_of (n : Nat) (hn : n < 16777216) (L : List Nat) (f : Nat) (HN : ∀ W, Calls Try.prog 51 #[.int .i64 n] W (RetNear W.heap.size (ints L) f W)) (W : World) :
    Calls Try.prog 21 #[.int .i64 n] W (RetOwns2 W.heap.size (ints L) true W) := by
  have h0 : (0 : Int) ≤ n := by omega
  have h1 : (n : Int) ≤ 16777215 := by omega
  have H := Lib.hid HN
  clear HN hn
  go_enter Try.func21, Try.ntmps21
  go_wp2_with (first | (go_at_call 51; refine (H.out _).mono ?_; rintro e w1 ⟨a, cap, rfl, hown, hbel⟩) | go_in)
  go_ret2
  exact RetOwns2.mk hown hbel
theorem implCodeNear_no (w : Int) (hw : ¬ IsW w) (W : World) : Calls Try.prog 21 #[.int .i64 w] W (RetOwns2 W.heap.size [] false W) := by
  by_cases h0 : 0 ≤ w
  · have h1 : ¬ w ≤ 16777215 := fun h => hw ⟨h0, by omega⟩
    clear hw
    go_enter Try.func21, Try.ntmps21
    go_wp2
    go_ret2
    exact RetOwns2.mk (Owns.made _ _ (Nat.le_refl _)) ((Below.refl _ _).alloc (Nat.le_refl _) _)
  · clear hw
    go_enter Try.func21, Try.ntmps21
    go_wp2
    go_ret2
    exact RetOwns2.mk (Owns.made _ _ (Nat.le_refl _)) ((Below.refl _ _).alloc (Nat.le_refl _) _)
set_option maxHeartbeats 1000000 in
theorem implMend_far (n : Nat) (hn : n < 16777216) (L : List Nat) (f : Nat) (h3 : ¬ f ≤ 3) (HN : ∀ W, Calls Try.prog 51 #[.int .i64 n] W (RetNear W.heap.size (ints L) f W)) (W : World) :
    Calls Try.prog 19 #[.int .i64 n] W (IntIs 0 false W) := by
  have h0 : (0 : Int) ≤ n := by omega
  have h1 : (n : Int) ≤ 16777215 := by omega
  have H := Lib.hid HN
  have h4 : (3 : Int) < (f : Int) := by omega
  clear HN hn h3
  go_enter Try.func19, Try.ntmps19
  go_wp2_with (first | (go_at_call 51; refine (H.out _).mono ?_; rintro e w1 ⟨a, cap, rfl, hown, hbel⟩) | go_in)
  go_ret2
  exact ⟨rfl, hbel⟩
set_option maxHeartbeats 1000000 in
theorem implMend_near (n : Nat) (hn : n < 16777216) (x : Nat) (l : List Nat) (f : Nat) (h3 : f ≤ 3) (HN : ∀ W, Calls Try.prog 51 #[.int .i64 n] W (RetNear W.heap.size (ints (x :: l)) f W)) (W : World) :
    Calls Try.prog 19 #[.int .i64 n] W (IntIs x true W) := by
  have h0 : (0 : Int) ≤ n := by omega
  have h1 : (n : Int) ≤ 16777215 := by omega
  have h4 : ¬ (3 : Int) < (f : Int) := by omega
  have h5 : (0 : Int) < ((ints (x :: l)).length : Int) := by rw [ints_length]; simp
  have H := Lib.hid HN
  clear HN hn h3
  go_enter Try.func19, Try.ntmps19
  go_wp2_with (first | (go_at_call 51; refine (H.out _).mono ?_; rintro e w1 ⟨a, cap, rfl, hown, hbel⟩; obtain ⟨g, rfl, _, hg, hc⟩ := hown.head (by rw [ints_length]; simp); have hc0 : w1.cell? ⟨g, 0, none⟩ = some (.int .i64 (x : Nat)) := hc 0 (by rw [ints_length]; simp); clear hc hown) | go_in)
  go_ret2
  exact ⟨rfl, hbel⟩
theorem implCodeMend_no (w : Int) (hw : ¬ IsW w) (W : World) : Calls Try.prog 19 #[.int .i64 w] W (IntIs 0 false W) := by
  by_cases h0 : 0 ≤ w
  · have h1 : ¬ w ≤ 16777215 := fun h => hw ⟨h0, by omega⟩
    clear hw
    go_enter Try.func19, Try.ntmps19
    go_wp2
    go_ret2
    exact ⟨rfl, Below.refl _ _⟩
  · clear hw
    go_enter Try.func19, Try.ntmps19
    go_wp2
    go_ret2
    exact ⟨rfl, Below.refl _ _⟩
set_option maxHeartbeats 1000000 in
theorem specFar_of (n : Nat) (hn : n < 16777216) (L : List Nat) (f : Nat) (HN : ∀ W, Calls Try.prog 49 #[.int .i64 n] W (RetNear W.heap.size (ints L) f W)) (W : World) :
    Calls Try.prog 27 #[.int .i64 n] W (FarIs f W) := by
  have h0 : (0 : Int) ≤ n := by omega
  have h1 : (n : Int) ≤ 16777215 := by omega
  have H := Lib.hid HN
  clear HN hn
  go_enter Try.func27, Try.ntmps27
  go_wp2_with (first | (go_at_call 49; refine (H.out _).mono ?_; rintro e w1 ⟨a, cap, rfl, hown, hbel⟩) | go_in)
  go_ret
  exact ⟨rfl, hbel⟩
theorem specCodeFar_no (w : Int) (hw : ¬ IsW w) (W : World) : Calls Try.prog 27 #[.int .i64 w] W (FarIs (-1) W) := by
  by_cases h0 : 0 ≤ w
  · have h1 : ¬ w ≤ 16777215 := fun h => hw ⟨h0, by omega⟩
    clear hw
    go_enter Try.func27, Try.ntmps27
    go_wp2
    go_ret
    exact ⟨rfl, Below.refl _ _⟩
  · clear hw
    go_enter Try.func27, Try.ntmps27
    go_wp2
    go_ret
    exact ⟨rfl, Below.refl _ _⟩
set_option maxHeartbeats 1000000 in
theorem specNear_of (n : Nat) (hn : n < 16777216) (L : List Nat) (f : Nat) (HN : ∀ W, Calls Try.prog 49 #[.int .i64 n] W (RetNear W.heap.size (ints L) f W)) (W : World) :
    Calls Try.prog 20 #[.int .i64 n] W (RetOwns2 W.heap.size (ints L) true W) := by
  have h0 : (0 : Int) ≤ n := by omega
  have h1 : (n : Int) ≤ 16777215 := by omega
  have H := Lib.hid HN
  clear HN hn
  go_enter Try.func20, Try.ntmps20
  go_wp2_with (first | (go_at_call 49; refine (H.out _).mono ?_; rintro e w1 ⟨a, cap, rfl, hown, hbel⟩) | go_in)
  go_ret2
  exact RetOwns2.mk hown hbel
theorem specCodeNear_no (w : Int) (hw : ¬ IsW w) (W : World) : Calls Try.prog 20 #[.int .i64 w] W (RetOwns2 W.heap.size [] false W) := by
  by_cases h0 : 0 ≤ w
  · have h1 : ¬ w ≤ 16777215 := fun h => hw ⟨h0, by omega⟩
    clear hw
    go_enter Try.func20, Try.ntmps20
    go_wp2
    go_ret2
    exact RetOwns2.mk (Owns.made _ _ (Nat.le_refl _)) ((Below.refl _ _).alloc (Nat.le_refl _) _)
  · clear hw
    go_enter Try.func20, Try.ntmps20
    go_wp2
    go_ret2
    exact RetOwns2.mk (Owns.made _ _ (Nat.le_refl _)) ((Below.refl _ _).alloc (Nat.le_refl _) _)
set_option maxHeartbeats 1000000 in
theorem specMend_far (n : Nat) (hn : n < 16777216) (L : List Nat) (f : Nat) (h3 : ¬ f ≤ 3) (HN : ∀ W, Calls Try.prog 49 #[.int .i64 n] W (RetNear W.heap.size (ints L) f W)) (W : World) :
    Calls Try.prog 18 #[.int .i64 n] W (IntIs 0 false W) := by
  have h0 : (0 : Int) ≤ n := by omega
  have h1 : (n : Int) ≤ 16777215 := by omega
  have H := Lib.hid HN
  have h4 : (3 : Int) < (f : Int) := by omega
  clear HN hn h3
  go_enter Try.func18, Try.ntmps18
  go_wp2_with (first | (go_at_call 49; refine (H.out _).mono ?_; rintro e w1 ⟨a, cap, rfl, hown, hbel⟩) | go_in)
  go_ret2
  exact ⟨rfl, hbel⟩
set_option maxHeartbeats 1000000 in
theorem specMend_near (n : Nat) (hn : n < 16777216) (x : Nat) (l : List Nat) (f : Nat) (h3 : f ≤ 3) (HN : ∀ W, Calls Try.prog 49 #[.int .i64 n] W (RetNear W.heap.size (ints (x :: l)) f W)) (W : World) :
    Calls Try.prog 18 #[.int .i64 n] W (IntIs x true W) := by
  have h0 : (0 : Int) ≤ n := by omega
  have h1 : (n : Int) ≤ 16777215 := by omega
  have h4 : ¬ (3 : Int) < (f : Int) := by omega
  have h5 : (0 : Int) < ((ints (x :: l)).length : Int) := by rw [ints_length]; simp
  have H := Lib.hid HN
  clear HN hn h3
  go_enter Try.func18, Try.ntmps18
  go_wp2_with (first | (go_at_call 49; refine (H.out _).mono ?_; rintro e w1 ⟨a, cap, rfl, hown, hbel⟩; obtain ⟨g, rfl, _, hg, hc⟩ := hown.head (by rw [ints_length]; simp); have hc0 : w1.cell? ⟨g, 0, none⟩ = some (.int .i64 (x : Nat)) := hc 0 (by rw [ints_length]; simp); clear hc hown) | go_in)
  go_ret2
  exact ⟨rfl, hbel⟩
theorem specCodeMend_no (w : Int) (hw : ¬ IsW w) (W : World) : Calls Try.prog 18 #[.int .i64 w] W (IntIs 0 false W) := by
  by_cases h0 : 0 ≤ w
  · have h1 : ¬ w ≤ 16777215 := fun h => hw ⟨h0, by omega⟩
    clear hw
    go_enter Try.func18, Try.ntmps18
    go_wp2
    go_ret2
    exact ⟨rfl, Below.refl _ _⟩
  · clear hw
    go_enter Try.func18, Try.ntmps18
    go_wp2
    go_ret2
    exact ⟨rfl, Below.refl _ _⟩
/-- at a word: the list of the nearest words, their distance, and both searches -/
theorem near_all (n : Nat) (hn : n < 16777216) : ∃ (x : Nat) (l : List Nat) (f : Nat), (x :: l).length ≤ 4096 ∧ f ≤ 4 ∧ (f = 0 ↔ inCode n = true) ∧ (f + pc n) % 2 = 0 ∧
    Hid (∀ W, Calls Try.prog 51 #[.int .i64 n] W (RetNear W.heap.size (ints (x :: l)) f W)) ∧
    Hid (∀ W, Calls Try.prog 49 #[.int .i64 n] W (RetNear W.heap.size (ints (x :: l)) f W)) := by
  obtain ⟨N, hN⟩ : ∃ N : Nat, N = 4096 := ⟨_, rfl⟩
  obtain ⟨x, l, e⟩ := nearN_some hN hn
  have h1 := fun W => near_any n N hN hn W
  have h2 := fun W => l3Near_any n N hN hn W
  have hlen := nearN_len n N
  rw [e] at h1 h2 hlen
  exact ⟨x, l, farN n N, by omega, farN_four hN hn, farN_zero hN hn, farN_even hN hn, Lib.hid h1, Lib.hid h2⟩
theorem near_ex (w : Int) : ∃ zs : List Int, ∃ ok : Bool, Hid (∀ W, Calls Try.prog 20 #[.int .i64 w] W (RetOwns2 W.heap.size zs ok W)) ∧
    Hid (∀ W, Calls Try.prog 21 #[.int .i64 w] W (RetOwns2 W.heap.size zs ok W)) ∧ Hid (zs.length ≤ 1000000000000) := by
  by_cases hw : IsW w
  · obtain ⟨n, rfl, hn⟩ := hw.of
    obtain ⟨x, l, f, hl, _, _, _, H1, H2⟩ := near_all n hn
    exact ⟨ints (x :: l), true, Lib.hid (specNear_of n hn _ f H2.out), Lib.hid (implNear_of n hn _ f H1.out), Lib.hid (by rw [ints_length]; omega)⟩
  · exact ⟨[], false, Lib.hid (fun W => specCodeNear_no w hw W), Lib.hid (fun W => implCodeNear_no w hw W), Lib.hid (by simp)⟩
theorem far_ex (w : Int) : ∃ x : Int, Hid (∀ W, Calls Try.prog 27 #[.int .i64 w] W (FarIs x W)) ∧
    Hid (∀ W, Calls Try.prog 26 #[.int .i64 w] W (FarIs x W)) := by
  by_cases hw : IsW w
  · obtain ⟨n, rfl, hn⟩ := hw.of
    obtain ⟨x, l, f, hl, _, _, _, H1, H2⟩ := near_all n hn
    exact ⟨f, Lib.hid (specFar_of n hn _ f H2.out), Lib.hid (implFar_of n hn _ f H1.out)⟩
  · exact ⟨-1, Lib.hid (fun W => specCodeFar_no w hw W), Lib.hid (fun W => implCodeFar_no w hw W)⟩
theorem mend_ex (w : Int) : ∃ x : Int, ∃ ok : Bool, Hid (∀ W, Calls Try.prog 18 #[.int .i64 w] W (IntIs x ok W)) ∧
    Hid (∀ W, Calls Try.prog 19 #[.int .i64 w] W (IntIs x ok W)) := by
  by_cases hw : IsW w
  · obtain ⟨n, rfl, hn⟩ := hw.of
    obtain ⟨x, l, f, hl, _, _, _, H1, H2⟩ := near_all n hn
    by_cases h3 : f ≤ 3
    · exact ⟨x, true, Lib.hid (specMend_near n hn x l f h3 H2.out), Lib.hid (implMend_near n hn x l f h3 H1.out)⟩
    · exact ⟨0, false, Lib.hid (specMend_far n hn _ f h3 H2.out), Lib.hid (implMend_far n hn _ f h3 H1.out)⟩
  · exact ⟨0, false, Lib.hid (fun W => specCodeMend_no w hw W), Lib.hid (fun W => implCodeMend_no w hw W)⟩
/-- at a word: its distance from the code, and what is true of it -/
theorem far_law (n : Nat) (hn : n < 16777216) : ∃ f : Nat, f ≤ 4 ∧ (f + pc n) % 2 = 0 ∧ inCode n = decide (f = 0) ∧ Hid (∀ W, Calls Try.prog 27 #[.int .i64 n] W (FarIs f W)) ∧
    Hid (∀ W, Calls Try.prog 26 #[.int .i64 n] W (FarIs f W)) := by
  obtain ⟨x, l, f, hl, h4, hz, he, H1, H2⟩ := near_all n hn
  exact ⟨f, h4, he, by rw [Bool.eq_iff_iff, decide_eq_true_eq]; exact hz.symm, Lib.hid (specFar_of n hn _ f H2.out), Lib.hid (implFar_of n hn _ f H1.out)⟩
theorem sent_all (m e : Nat) (hm : m < 4096) (he : e < 16777216) (h3 : pc e ≤ 3) (W : World) : Calls Try.prog 19 #[.int .i64 (enc m ^^^ e : Nat)] W (IntIs (enc m : Nat) true W) := by
  obtain ⟨N, hN⟩ : ∃ N : Nat, N = 4096 := ⟨_, rfl⟩
  obtain ⟨hf, l, hl⟩ := near_sent hN hm he h3
  have hn : enc m ^^^ e < 16777216 := xor_lt24 (enc_ok m hm).1 he
  have h1 := fun W => near_any (enc m ^^^ e) N hN hn W
  rw [hl] at h1
  exact implMend_near _ hn (enc m) l _ hf h1 W
end Go.Proofs.Ytompdebingllmaa
