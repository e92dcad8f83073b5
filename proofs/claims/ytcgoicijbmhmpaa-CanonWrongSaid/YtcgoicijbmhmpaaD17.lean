/-
  The walk of the law on what is rejected.
-/
import Derived.Test.YtcgoicijbmhmpaaD16
import Derived.Test.YtcgoicijbmhmpaaW15
namespace Go.Proofs.Ytcgoicijbmhmpaa
open Go.RowKit Go.Fl Go.Deep
attribute [local go_sem] run_store_float
attribute [local go_sem] unary_neg_float

def quart (P : Nat) (j : Nat) : Nat := if j = 0 then 4598175219545276416 else P
theorem quart_ok (P : Nat) {j : Nat} (h : j = 0) : prob (quart P j) = true := by
  subst h
  show prob 4598175219545276416 = true
  decide +kernel
/-- What the three calls answer of a bad list, or of a bad probability. -/
structure Bad (W : World) (G N cc P : Nat) : Prop where
  avg : ∀ W', Below W.heap.size W W' → Calls Try.prog 31 #[.slice (some ⟨G, 0, none⟩) N cc, .float .f64 P] W' fun e w' => e = .returned (.tuple #[.float .f64 0, .int .i64 2]) ∧ W' = w'
  slope : ∀ W', Below W.heap.size W W' → Calls Try.prog 33 #[.slice (some ⟨G, 0, none⟩) N cc, .float .f64 P] W' fun e w' => e = .returned (.tuple #[.float .f64 0, .int .i64 2]) ∧ Below W'.heap.size W' w'
  curve : ∀ W', Below W.heap.size W W' → Calls Try.prog 36 #[.slice (some ⟨G, 0, none⟩) N cc, .slice (some ⟨W'.heap.size, 0, none⟩) 2 2] (W'.alloc (.cells #[.float .f64 4598175219545276416, .float .f64 P] 22)) fun e w' => e = .returned (.tuple #[.slice none 0 0, .int .i64 2]) ∧ Below W'.heap.size W' w'
theorem bad_of {W : World} {G N cc P : Nat} {f : Nat → Nat} (hO : OwnG W G N f) (hwf : ∀ j, j < N → f j < 2 ^ 64) (hN : N ≤ 400) (hP : P < 2 ^ 64) (hbad : listB N f = false ∨ (listB N f = true ∧ prob P = false)) : Bad W G N cc P := by
  have hb2 : (listB N f && prob P) = false := by rcases hbad with h | ⟨_, h⟩ <;> rw [h] <;> simp
  have L : ∀ W', Below W.heap.size W W' → ListIn W' (some ⟨G, 0, none⟩) N f := fun W' hb => ⟨(hO.below hb hO.lt).row, hwf, by unfold maxLen; omega⟩
  refine ⟨fun W' hb => Average_bad _ N cc P f W' (L W' hb) hb2, fun W' hb => Slope_bad _ N cc P f W' (L W' hb) hb2, fun W' hb => ?_⟩
  have hL := (L W' hb).below ((Below.refl _ W').alloc (Nat.le_refl _) (.cells #[.float .f64 4598175219545276416, .float .f64 P] 22))
  have fin : ∀ {e w'}, Fails (W'.alloc (.cells #[.float .f64 4598175219545276416, .float .f64 P] 22)) 2 e w' → e = .returned (.tuple #[.slice none 0 0, .int .i64 2]) ∧ Below W'.heap.size W' w' := fun {e w'} h => ⟨h.1, ((Below.refl _ W').alloc (Nat.le_refl _) _).trans (h.2.mono (by simp))⟩
  rcases hbad with h | ⟨h1, h2⟩
  · exact (Curve_list _ _ N cc 2 2 f _ hL (by omega) h).mono fun e w' h => fin h
  · exact (Curve_bad _ _ N cc 2 2 1 f (quart P) _ hL ⟨new2 W' _ _ (quart P) rfl rfl, fun j hj => by unfold quart; split <;> omega, by unfold maxLen; omega⟩ (by omega) h1 (by omega) h2 (fun j hj => quart_ok P (by omega))).mono fun e w' h => fin h

theorem set_wf {f : Nat → Nat} {N i X : Nat} (hf : ∀ j, j < N → f j < 2 ^ 64) (hX : X < 2 ^ 64) : ∀ j, j < N → (fun q => if q = i then X else f q) j < 2 ^ 64 := fun j hj => by
  show (if j = i then X else f j) < 2 ^ 64
  split
  · exact hX
  · exact hf j hj
theorem list_bad_at {f : Nat → Nat} {N i X : Nat} (hi : i < N) (hX : inB X = false) : listB N (fun q => if q = i then X else f q) = false :=
  listB_bad hi (by show inB (if i = i then X else f i) = false; rw [if_pos rfl]; exact hX)

theorem taken_low (n : Int) (p : Nat) : taken (min n (-1)) p = false := by
  unfold taken
  rw [decide_eq_false (show ¬ (0 : Int) ≤ min n (-1) by omega)]
  rfl
theorem taken_high (n : Int) (p : Nat) : taken (max n 16385) p = false := by
  unfold taken
  rw [decide_eq_false (show ¬ max n 16385 ≤ (16384 : Int) by omega), Bool.and_false]
  rfl
theorem nil_list (W : World) : ListIn W none 0 (fun _ => 0) := ⟨fun h => by omega, fun j hj => by omega, by unfold maxLen; omega⟩
theorem nil_avg (p : Nat) (W : World) : Calls Try.prog 31 #[.slice none 0 0, .float .f64 p] W fun e w' => e = .returned (.tuple #[.float .f64 0, .int .i64 2]) ∧ W = w' :=
  Average_bad none 0 0 p _ W (nil_list W) (by rw [listB_false (.inl (by omega))]; rfl)
theorem nil_curve (W : World) : Calls Try.prog 36 #[.slice none 0 0, .slice none 0 0] W (Fails W 2) :=
  Curve_list none none 0 0 0 0 _ W (nil_list W) (by omega) (listB_false (.inl (by omega)))
theorem cell_twos (W : World) (t : TypeId) {j : Nat} (hj : j < 11) : (W.alloc (.cells #[.int .i64 2, .int .i64 2, .int .i64 2, .int .i64 2, .int .i64 2, .int .i64 2, .int .i64 2, .int .i64 2, .int .i64 2, .int .i64 2, .int .i64 2] t)).cell? ⟨W.heap.size, j, none⟩ = some (.int .i64 2) := by
  rw [World.cell?_alloc_at _ _ _ _ rfl]
  have : ∀ i : Fin 11, (#[Value.int .i64 2, .int .i64 2, .int .i64 2, .int .i64 2, .int .i64 2, .int .i64 2, .int .i64 2, .int .i64 2, .int .i64 2, .int .i64 2, .int .i64 2] : Array Value)[i.val]? = some (.int .i64 2) := by
    intro i
    match i with
    | 0 => rfl
    | 1 => rfl
    | 2 => rfl
    | 3 => rfl
    | 4 => rfl
    | 5 => rfl
    | 6 => rfl
    | 7 => rfl
    | 8 => rfl
    | 9 => rfl
    | 10 => rfl
  exact this ⟨j, hj⟩

set_option maxRecDepth 100000 in
set_option maxHeartbeats 16000000 in
theorem canonWrong_walk (A : Option Addr) (n c : Nat) (l : Nat → Int) (p y : Nat) (m : Int) (w : World) (h : IntsIn w .i32 A n l) (hp : p ≤ 65535) (hy : y ≤ 255) :
    Calls Try.prog 19 #[.slice A n c, .int .u16 p, .int .u8 y, .int .i64 m] w fun e w' => e = .returned (.bool true) ∧ Below w.heap.size w w' := by
  have CP := Lib.hid (plain_c A n c l w h)
  have hN1 := cnt_pos n
  have hN2 := cnt_le n
  have HF := Lib.hid (vals_whole h.wf)
  clear h
  go_enter Try.func19, Try.ntmps19
  go_wp2_with fail
  refine CP.out.mono ?_
  rintro e w1 ⟨⟨G, cc, rfl, hG, hown⟩, hb1⟩
  have HO := Lib.hid (OwnG.of_own hown)
  clear hown CP
  generalize vals l n = f at *
  generalize cnt n = N at *
  generalize mostW l (min n 400) = mo at *
  have c0 := HO.out.cell (Nat.mod_lt p (show N > 0 by omega))
  have c1 := HO.out.frozen (p % N)
  have ez : ¬ N = 0 := by omega
  have er := Int.natCast_emod p N
  have et : (p : Int).tmod (N : Int) = (p : Int) % (N : Int) := by rw [← er]; exact (Int.ofNat_tmod p N).symm
  have hlt := Nat.mod_lt p (show N > 0 by omega)
  have r2 : (0 : Int) ≤ (p : Int) % (N : Int) := by rw [← er]; omega
  have r3 : (p : Int) % (N : Int) < (N : Int) := by rw [← er]; omega
  have r4 : ((p : Int) % (N : Int)).toNat = p % N := by rw [← er]; rfl
  have HLT := Lib.hid hlt
  clear er hlt
  have hz : (y : Int) % 8 = 0 ∨ (y : Int) % 8 = 1 ∨ (y : Int) % 8 = 2 ∨ (y : Int) % 8 = 3 ∨ (y : Int) % 8 = 4 ∨ (y : Int) % 8 = 5 ∨ (y : Int) % 8 = 6 ∨ (y : Int) % 8 = 7 := by omega
  rcases hz with hz | hz | hz | hz | hz | hz | hz | hz
  · go_wp2_with (go_at_call 52; refine (nan_c _).mono ?_; rintro e w' ⟨rfl, rfl⟩)
    have hb2 := Lib.hid (hb1.setCell (p := ⟨G, p % N, none⟩) hG (.float .f64 9221120237041090561))
    have BD := Lib.hid (bad_of (cc := cc) (P := 4602678819172646912) (HO.out.set (p % N) 9221120237041090561 (f' := fun q => if q = p % N then 9221120237041090561 else f q) (fun q _ => rfl)) (set_wf HF.out.wf (by decide +kernel)) hN2 (by decide) (.inl (list_bad_at HLT.out (by decide +kernel))))
    clear c0 c1 ez et r2 r3 r4 hz
    generalize w1.setCell ⟨G, p % N, none⟩ (.float .f64 9221120237041090561) = w2 at *
    clear HO HF
    refine (BD.out.avg w2 (Below.refl _ _)).mono ?_
    rintro e w' ⟨rfl, rfl⟩
    go_wp2_with fail
    refine (BD.out.slope w2 (Below.refl _ _)).mono ?_
    rintro e w3 ⟨rfl, hb3⟩
    go_wp2_with fail
    refine (BD.out.curve w3 hb3).mono ?_
    rintro e w4 ⟨rfl, hb4⟩
    have B4 := Lib.hid ((hb2.out.trans (hb3.mono hb2.out.size)).trans (hb4.mono (Nat.le_trans hb2.out.size hb3.size)))
    clear hb2 hb3 hb4 BD
    go_wp2_with (go_at_call 31; refine (nil_avg _ _).mono ?_; rintro e w' ⟨rfl, rfl⟩)
    refine (nil_curve _).mono ?_
    rintro e w5 ⟨rfl, hb5⟩
    have B5 := Lib.hid (B4.out.trans (hb5.mono B4.out.size))
    clear B4 hb5
    go_wp2_with fail
    refine (Weights_bad _ _ _ (taken_low m _)).mono ?_
    rintro e w' ⟨rfl, rfl⟩
    go_wp2_with fail
    refine (Weights_bad _ _ _ (taken_high m _)).mono ?_
    rintro e w' ⟨rfl, rfl⟩
    go_wp2_with fail
    refine (Values_bad _ _ _ _ _ _ (.inl (by omega))).mono ?_
    rintro e w6 ⟨rfl, hb6⟩
    go_wp2_with fail
    refine (Values_bad _ _ _ _ _ _ (.inr (.inl ⟨by omega, by omega⟩))).mono ?_
    rintro e w7 ⟨rfl, hb7⟩
    go_wp2_with fail
    refine (Values_bad _ _ _ _ _ _ (.inr (.inr (.inl ⟨by omega, by omega⟩)))).mono ?_
    rintro e w8 ⟨rfl, hb8⟩
    go_wp2_with fail
    refine (Values_bad none 0 0 1 1 _ (.inr (.inr (.inr ⟨by omega, by omega, by omega, by omega⟩)))).mono ?_
    rintro e w9 ⟨rfl, hb9⟩
    have B5a := B5.out.alloc B5.out.size (.cells #[.int .i64 1, .int .i64 0, .int .i64 0] 66)
    have B6 := B5a.trans (hb6.mono B5a.size)
    have B7 := B6.trans (hb7.mono B6.size)
    have B8 := B7.trans (hb8.mono B7.size)
    have B9 := Lib.hid (B8.trans (hb9.mono B8.size))
    clear B5a B6 B7 B8 B5 hb6 hb7 hb8 hb9
    go_wp2
    have HC := Lib.hid (fun j (hj : j < 11) => cell_twos w9 25 hj)
    have B10 := Lib.hid (B9.out.alloc B9.out.size (.cells #[.int .i64 2, .int .i64 2, .int .i64 2, .int .i64 2, .int .i64 2, .int .i64 2, .int .i64 2, .int .i64 2, .int .i64 2, .int .i64 2, .int .i64 2] 25))
    clear B9
    generalize w9.alloc (.cells #[.int .i64 2, .int .i64 2, .int .i64 2, .int .i64 2, .int .i64 2, .int .i64 2, .int .i64 2, .int .i64 2, .int .i64 2, .int .i64 2, .int .i64 2] 25) = w10 at *
    go_loop [169] (fun i => ∃ j : Nat, j ≤ 11 ∧ i = .int .i64 j) (fun i => 11 - (intOf i).toNat)
    case atStart => exact ⟨0, Nat.zero_le _, rfl⟩
    case round =>
      obtain ⟨j, hj, rfl⟩ := hrel
      by_cases hjn : j < 11
      · have c2 := HC.out j hjn
        have lj : (j : Int) < 11 := by omega
        go_wp2
        go_round
        case rel => first | exact ⟨j + 1, by omega, by go_num⟩ | trivial
        case measure => simp [intOf]; omega
      · have lj : ¬ (j : Int) < 11 := by omega
        have CO := Lib.hid (fun W => one_any 0 0 W)
        simp only [beq_self_eq_true] at CO
        go_wp2_with (first | (go_at_call 35; refine (CO.out _).mono ?_; rintro e w' ⟨rfl, rfl⟩) | (go_at_call 27; refine (works_any _).mono ?_; rintro e w11 ⟨rfl, hb11⟩))
        go_ret
        exact ⟨rfl, B10.out.trans (hb11.mono B10.out.size)⟩
  · go_wp2_with (go_at_call 53; refine (inf_c _).mono ?_; rintro e w' ⟨rfl, rfl⟩)
    have hb2 := Lib.hid (hb1.setCell (p := ⟨G, p % N, none⟩) hG (.float .f64 9218868437227405312))
    have BD := Lib.hid (bad_of (cc := cc) (P := 4602678819172646912) (HO.out.set (p % N) 9218868437227405312 (f' := fun q => if q = p % N then 9218868437227405312 else f q) (fun q _ => rfl)) (set_wf HF.out.wf (by decide +kernel)) hN2 (by decide) (.inl (list_bad_at HLT.out (by decide +kernel))))
    clear c0 c1 ez et r2 r3 r4 hz
    generalize w1.setCell ⟨G, p % N, none⟩ (.float .f64 9218868437227405312) = w2 at *
    clear HO HF
    refine (BD.out.avg w2 (Below.refl _ _)).mono ?_
    rintro e w' ⟨rfl, rfl⟩
    go_wp2_with fail
    refine (BD.out.slope w2 (Below.refl _ _)).mono ?_
    rintro e w3 ⟨rfl, hb3⟩
    go_wp2_with fail
    refine (BD.out.curve w3 hb3).mono ?_
    rintro e w4 ⟨rfl, hb4⟩
    have B4 := Lib.hid ((hb2.out.trans (hb3.mono hb2.out.size)).trans (hb4.mono (Nat.le_trans hb2.out.size hb3.size)))
    clear hb2 hb3 hb4 BD
    go_wp2_with (go_at_call 31; refine (nil_avg _ _).mono ?_; rintro e w' ⟨rfl, rfl⟩)
    refine (nil_curve _).mono ?_
    rintro e w5 ⟨rfl, hb5⟩
    have B5 := Lib.hid (B4.out.trans (hb5.mono B4.out.size))
    clear B4 hb5
    go_wp2_with fail
    refine (Weights_bad _ _ _ (taken_low m _)).mono ?_
    rintro e w' ⟨rfl, rfl⟩
    go_wp2_with fail
    refine (Weights_bad _ _ _ (taken_high m _)).mono ?_
    rintro e w' ⟨rfl, rfl⟩
    go_wp2_with fail
    refine (Values_bad _ _ _ _ _ _ (.inl (by omega))).mono ?_
    rintro e w6 ⟨rfl, hb6⟩
    go_wp2_with fail
    refine (Values_bad _ _ _ _ _ _ (.inr (.inl ⟨by omega, by omega⟩))).mono ?_
    rintro e w7 ⟨rfl, hb7⟩
    go_wp2_with fail
    refine (Values_bad _ _ _ _ _ _ (.inr (.inr (.inl ⟨by omega, by omega⟩)))).mono ?_
    rintro e w8 ⟨rfl, hb8⟩
    go_wp2_with fail
    refine (Values_bad none 0 0 1 1 _ (.inr (.inr (.inr ⟨by omega, by omega, by omega, by omega⟩)))).mono ?_
    rintro e w9 ⟨rfl, hb9⟩
    have B5a := B5.out.alloc B5.out.size (.cells #[.int .i64 1, .int .i64 0, .int .i64 0] 66)
    have B6 := B5a.trans (hb6.mono B5a.size)
    have B7 := B6.trans (hb7.mono B6.size)
    have B8 := B7.trans (hb8.mono B7.size)
    have B9 := Lib.hid (B8.trans (hb9.mono B8.size))
    clear B5a B6 B7 B8 B5 hb6 hb7 hb8 hb9
    go_wp2
    have HC := Lib.hid (fun j (hj : j < 11) => cell_twos w9 25 hj)
    have B10 := Lib.hid (B9.out.alloc B9.out.size (.cells #[.int .i64 2, .int .i64 2, .int .i64 2, .int .i64 2, .int .i64 2, .int .i64 2, .int .i64 2, .int .i64 2, .int .i64 2, .int .i64 2, .int .i64 2] 25))
    clear B9
    generalize w9.alloc (.cells #[.int .i64 2, .int .i64 2, .int .i64 2, .int .i64 2, .int .i64 2, .int .i64 2, .int .i64 2, .int .i64 2, .int .i64 2, .int .i64 2, .int .i64 2] 25) = w10 at *
    go_loop [169] (fun i => ∃ j : Nat, j ≤ 11 ∧ i = .int .i64 j) (fun i => 11 - (intOf i).toNat)
    case atStart => exact ⟨0, Nat.zero_le _, rfl⟩
    case round =>
      obtain ⟨j, hj, rfl⟩ := hrel
      by_cases hjn : j < 11
      · have c2 := HC.out j hjn
        have lj : (j : Int) < 11 := by omega
        go_wp2
        go_round
        case rel => first | exact ⟨j + 1, by omega, by go_num⟩ | trivial
        case measure => simp [intOf]; omega
      · have lj : ¬ (j : Int) < 11 := by omega
        have CO := Lib.hid (fun W => one_any 0 0 W)
        simp only [beq_self_eq_true] at CO
        go_wp2_with (first | (go_at_call 35; refine (CO.out _).mono ?_; rintro e w' ⟨rfl, rfl⟩) | (go_at_call 27; refine (works_any _).mono ?_; rintro e w11 ⟨rfl, hb11⟩))
        go_ret
        exact ⟨rfl, B10.out.trans (hb11.mono B10.out.size)⟩
  · go_wp2_with (go_at_call 53; refine (inf_c _).mono ?_; rintro e w' ⟨rfl, rfl⟩)
    have hb2 := Lib.hid (hb1.setCell (p := ⟨G, p % N, none⟩) hG (.float .f64 (Op.negFloat .f64 9218868437227405312)))
    have BD := Lib.hid (bad_of (cc := cc) (P := 4602678819172646912) (HO.out.set (p % N) (Op.negFloat .f64 9218868437227405312) (f' := fun q => if q = p % N then (Op.negFloat .f64 9218868437227405312) else f q) (fun q _ => rfl)) (set_wf HF.out.wf (by decide +kernel)) hN2 (by decide) (.inl (list_bad_at HLT.out (by decide +kernel))))
    clear c0 c1 ez et r2 r3 r4 hz
    generalize w1.setCell ⟨G, p % N, none⟩ (.float .f64 (Op.negFloat .f64 9218868437227405312)) = w2 at *
    clear HO HF
    refine (BD.out.avg w2 (Below.refl _ _)).mono ?_
    rintro e w' ⟨rfl, rfl⟩
    go_wp2_with fail
    refine (BD.out.slope w2 (Below.refl _ _)).mono ?_
    rintro e w3 ⟨rfl, hb3⟩
    go_wp2_with fail
    refine (BD.out.curve w3 hb3).mono ?_
    rintro e w4 ⟨rfl, hb4⟩
    have B4 := Lib.hid ((hb2.out.trans (hb3.mono hb2.out.size)).trans (hb4.mono (Nat.le_trans hb2.out.size hb3.size)))
    clear hb2 hb3 hb4 BD
    go_wp2_with (go_at_call 31; refine (nil_avg _ _).mono ?_; rintro e w' ⟨rfl, rfl⟩)
    refine (nil_curve _).mono ?_
    rintro e w5 ⟨rfl, hb5⟩
    have B5 := Lib.hid (B4.out.trans (hb5.mono B4.out.size))
    clear B4 hb5
    go_wp2_with fail
    refine (Weights_bad _ _ _ (taken_low m _)).mono ?_
    rintro e w' ⟨rfl, rfl⟩
    go_wp2_with fail
    refine (Weights_bad _ _ _ (taken_high m _)).mono ?_
    rintro e w' ⟨rfl, rfl⟩
    go_wp2_with fail
    refine (Values_bad _ _ _ _ _ _ (.inl (by omega))).mono ?_
    rintro e w6 ⟨rfl, hb6⟩
    go_wp2_with fail
    refine (Values_bad _ _ _ _ _ _ (.inr (.inl ⟨by omega, by omega⟩))).mono ?_
    rintro e w7 ⟨rfl, hb7⟩
    go_wp2_with fail
    refine (Values_bad _ _ _ _ _ _ (.inr (.inr (.inl ⟨by omega, by omega⟩)))).mono ?_
    rintro e w8 ⟨rfl, hb8⟩
    go_wp2_with fail
    refine (Values_bad none 0 0 1 1 _ (.inr (.inr (.inr ⟨by omega, by omega, by omega, by omega⟩)))).mono ?_
    rintro e w9 ⟨rfl, hb9⟩
    have B5a := B5.out.alloc B5.out.size (.cells #[.int .i64 1, .int .i64 0, .int .i64 0] 66)
    have B6 := B5a.trans (hb6.mono B5a.size)
    have B7 := B6.trans (hb7.mono B6.size)
    have B8 := B7.trans (hb8.mono B7.size)
    have B9 := Lib.hid (B8.trans (hb9.mono B8.size))
    clear B5a B6 B7 B8 B5 hb6 hb7 hb8 hb9
    go_wp2
    have HC := Lib.hid (fun j (hj : j < 11) => cell_twos w9 25 hj)
    have B10 := Lib.hid (B9.out.alloc B9.out.size (.cells #[.int .i64 2, .int .i64 2, .int .i64 2, .int .i64 2, .int .i64 2, .int .i64 2, .int .i64 2, .int .i64 2, .int .i64 2, .int .i64 2, .int .i64 2] 25))
    clear B9
    generalize w9.alloc (.cells #[.int .i64 2, .int .i64 2, .int .i64 2, .int .i64 2, .int .i64 2, .int .i64 2, .int .i64 2, .int .i64 2, .int .i64 2, .int .i64 2, .int .i64 2] 25) = w10 at *
    go_loop [169] (fun i => ∃ j : Nat, j ≤ 11 ∧ i = .int .i64 j) (fun i => 11 - (intOf i).toNat)
    case atStart => exact ⟨0, Nat.zero_le _, rfl⟩
    case round =>
      obtain ⟨j, hj, rfl⟩ := hrel
      by_cases hjn : j < 11
      · have c2 := HC.out j hjn
        have lj : (j : Int) < 11 := by omega
        go_wp2
        go_round
        case rel => first | exact ⟨j + 1, by omega, by go_num⟩ | trivial
        case measure => simp [intOf]; omega
      · have lj : ¬ (j : Int) < 11 := by omega
        have CO := Lib.hid (fun W => one_any 0 0 W)
        simp only [beq_self_eq_true] at CO
        go_wp2_with (first | (go_at_call 35; refine (CO.out _).mono ?_; rintro e w' ⟨rfl, rfl⟩) | (go_at_call 27; refine (works_any _).mono ?_; rintro e w11 ⟨rfl, hb11⟩))
        go_ret
        exact ⟨rfl, B10.out.trans (hb11.mono B10.out.size)⟩
  · go_wp2_with (first | (go_at_call 53; refine (inf_c _).mono ?_; rintro e w' ⟨rfl, rfl⟩) | (go_at_call 54; refine (next_most _).mono ?_; rintro e w' ⟨rfl, rfl⟩))
    have hb2 := Lib.hid (hb1.setCell (p := ⟨G, p % N, none⟩) hG (.float .f64 5057542381537067009))
    have BD := Lib.hid (bad_of (cc := cc) (P := 4602678819172646912) (HO.out.set (p % N) 5057542381537067009 (f' := fun q => if q = p % N then 5057542381537067009 else f q) (fun q _ => rfl)) (set_wf HF.out.wf (by decide +kernel)) hN2 (by decide) (.inl (list_bad_at HLT.out (by decide +kernel))))
    clear c0 c1 ez et r2 r3 r4 hz
    generalize w1.setCell ⟨G, p % N, none⟩ (.float .f64 5057542381537067009) = w2 at *
    clear HO HF
    refine (BD.out.avg w2 (Below.refl _ _)).mono ?_
    rintro e w' ⟨rfl, rfl⟩
    go_wp2_with fail
    refine (BD.out.slope w2 (Below.refl _ _)).mono ?_
    rintro e w3 ⟨rfl, hb3⟩
    go_wp2_with fail
    refine (BD.out.curve w3 hb3).mono ?_
    rintro e w4 ⟨rfl, hb4⟩
    have B4 := Lib.hid ((hb2.out.trans (hb3.mono hb2.out.size)).trans (hb4.mono (Nat.le_trans hb2.out.size hb3.size)))
    clear hb2 hb3 hb4 BD
    go_wp2_with (go_at_call 31; refine (nil_avg _ _).mono ?_; rintro e w' ⟨rfl, rfl⟩)
    refine (nil_curve _).mono ?_
    rintro e w5 ⟨rfl, hb5⟩
    have B5 := Lib.hid (B4.out.trans (hb5.mono B4.out.size))
    clear B4 hb5
    go_wp2_with fail
    refine (Weights_bad _ _ _ (taken_low m _)).mono ?_
    rintro e w' ⟨rfl, rfl⟩
    go_wp2_with fail
    refine (Weights_bad _ _ _ (taken_high m _)).mono ?_
    rintro e w' ⟨rfl, rfl⟩
    go_wp2_with fail
    refine (Values_bad _ _ _ _ _ _ (.inl (by omega))).mono ?_
    rintro e w6 ⟨rfl, hb6⟩
    go_wp2_with fail
    refine (Values_bad _ _ _ _ _ _ (.inr (.inl ⟨by omega, by omega⟩))).mono ?_
    rintro e w7 ⟨rfl, hb7⟩
    go_wp2_with fail
    refine (Values_bad _ _ _ _ _ _ (.inr (.inr (.inl ⟨by omega, by omega⟩)))).mono ?_
    rintro e w8 ⟨rfl, hb8⟩
    go_wp2_with fail
    refine (Values_bad none 0 0 1 1 _ (.inr (.inr (.inr ⟨by omega, by omega, by omega, by omega⟩)))).mono ?_
    rintro e w9 ⟨rfl, hb9⟩
    have B5a := B5.out.alloc B5.out.size (.cells #[.int .i64 1, .int .i64 0, .int .i64 0] 66)
    have B6 := B5a.trans (hb6.mono B5a.size)
    have B7 := B6.trans (hb7.mono B6.size)
    have B8 := B7.trans (hb8.mono B7.size)
    have B9 := Lib.hid (B8.trans (hb9.mono B8.size))
    clear B5a B6 B7 B8 B5 hb6 hb7 hb8 hb9
    go_wp2
    have HC := Lib.hid (fun j (hj : j < 11) => cell_twos w9 25 hj)
    have B10 := Lib.hid (B9.out.alloc B9.out.size (.cells #[.int .i64 2, .int .i64 2, .int .i64 2, .int .i64 2, .int .i64 2, .int .i64 2, .int .i64 2, .int .i64 2, .int .i64 2, .int .i64 2, .int .i64 2] 25))
    clear B9
    generalize w9.alloc (.cells #[.int .i64 2, .int .i64 2, .int .i64 2, .int .i64 2, .int .i64 2, .int .i64 2, .int .i64 2, .int .i64 2, .int .i64 2, .int .i64 2, .int .i64 2] 25) = w10 at *
    go_loop [169] (fun i => ∃ j : Nat, j ≤ 11 ∧ i = .int .i64 j) (fun i => 11 - (intOf i).toNat)
    case atStart => exact ⟨0, Nat.zero_le _, rfl⟩
    case round =>
      obtain ⟨j, hj, rfl⟩ := hrel
      by_cases hjn : j < 11
      · have c2 := HC.out j hjn
        have lj : (j : Int) < 11 := by omega
        go_wp2
        go_round
        case rel => first | exact ⟨j + 1, by omega, by go_num⟩ | trivial
        case measure => simp [intOf]; omega
      · have lj : ¬ (j : Int) < 11 := by omega
        have CO := Lib.hid (fun W => one_any 0 0 W)
        simp only [beq_self_eq_true] at CO
        go_wp2_with (first | (go_at_call 35; refine (CO.out _).mono ?_; rintro e w' ⟨rfl, rfl⟩) | (go_at_call 27; refine (works_any _).mono ?_; rintro e w11 ⟨rfl, hb11⟩))
        go_ret
        exact ⟨rfl, B10.out.trans (hb11.mono B10.out.size)⟩
  · go_wp2_with (go_at_call 52; refine (nan_c _).mono ?_; rintro e w' ⟨rfl, rfl⟩)
    refine (Weights_bad 3 9221120237041090561 _ (by decide +kernel)).mono ?_
    rintro e w' ⟨rfl, rfl⟩
    have hb2 := Lib.hid hb1
    have BD := Lib.hid (bad_of (cc := cc) (P := 9221120237041090561) HO.out HF.out.wf hN2 (by decide) (.inr ⟨HF.out.list le_M31 hN1 (by omega), by decide +kernel⟩))
    clear c0 c1 ez et r2 r3 r4 hz
    go_wp2_with fail
    obtain ⟨w2, hw2⟩ : ∃ w2, w2 = w1 := ⟨_, rfl⟩
    rw [← hw2] at BD hb2 ⊢
    clear hw2
    clear HO HF
    refine (BD.out.avg w2 (Below.refl _ _)).mono ?_
    rintro e w' ⟨rfl, rfl⟩
    go_wp2_with fail
    refine (BD.out.slope w2 (Below.refl _ _)).mono ?_
    rintro e w3 ⟨rfl, hb3⟩
    go_wp2_with fail
    refine (BD.out.curve w3 hb3).mono ?_
    rintro e w4 ⟨rfl, hb4⟩
    have B4 := Lib.hid ((hb2.out.trans (hb3.mono hb2.out.size)).trans (hb4.mono (Nat.le_trans hb2.out.size hb3.size)))
    clear hb2 hb3 hb4 BD
    go_wp2_with (go_at_call 31; refine (nil_avg _ _).mono ?_; rintro e w' ⟨rfl, rfl⟩)
    refine (nil_curve _).mono ?_
    rintro e w5 ⟨rfl, hb5⟩
    have B5 := Lib.hid (B4.out.trans (hb5.mono B4.out.size))
    clear B4 hb5
    go_wp2_with fail
    refine (Weights_bad _ _ _ (taken_low m _)).mono ?_
    rintro e w' ⟨rfl, rfl⟩
    go_wp2_with fail
    refine (Weights_bad _ _ _ (taken_high m _)).mono ?_
    rintro e w' ⟨rfl, rfl⟩
    go_wp2_with fail
    refine (Values_bad _ _ _ _ _ _ (.inl (by omega))).mono ?_
    rintro e w6 ⟨rfl, hb6⟩
    go_wp2_with fail
    refine (Values_bad _ _ _ _ _ _ (.inr (.inl ⟨by omega, by omega⟩))).mono ?_
    rintro e w7 ⟨rfl, hb7⟩
    go_wp2_with fail
    refine (Values_bad _ _ _ _ _ _ (.inr (.inr (.inl ⟨by omega, by omega⟩)))).mono ?_
    rintro e w8 ⟨rfl, hb8⟩
    go_wp2_with fail
    refine (Values_bad none 0 0 1 1 _ (.inr (.inr (.inr ⟨by omega, by omega, by omega, by omega⟩)))).mono ?_
    rintro e w9 ⟨rfl, hb9⟩
    have B5a := B5.out.alloc B5.out.size (.cells #[.int .i64 1, .int .i64 0, .int .i64 0] 66)
    have B6 := B5a.trans (hb6.mono B5a.size)
    have B7 := B6.trans (hb7.mono B6.size)
    have B8 := B7.trans (hb8.mono B7.size)
    have B9 := Lib.hid (B8.trans (hb9.mono B8.size))
    clear B5a B6 B7 B8 B5 hb6 hb7 hb8 hb9
    go_wp2
    have HC := Lib.hid (fun j (hj : j < 11) => cell_twos w9 25 hj)
    have B10 := Lib.hid (B9.out.alloc B9.out.size (.cells #[.int .i64 2, .int .i64 2, .int .i64 2, .int .i64 2, .int .i64 2, .int .i64 2, .int .i64 2, .int .i64 2, .int .i64 2, .int .i64 2, .int .i64 2] 25))
    clear B9
    generalize w9.alloc (.cells #[.int .i64 2, .int .i64 2, .int .i64 2, .int .i64 2, .int .i64 2, .int .i64 2, .int .i64 2, .int .i64 2, .int .i64 2, .int .i64 2, .int .i64 2] 25) = w10 at *
    go_loop [169] (fun i => ∃ j : Nat, j ≤ 11 ∧ i = .int .i64 j) (fun i => 11 - (intOf i).toNat)
    case atStart => exact ⟨0, Nat.zero_le _, rfl⟩
    case round =>
      obtain ⟨j, hj, rfl⟩ := hrel
      by_cases hjn : j < 11
      · have c2 := HC.out j hjn
        have lj : (j : Int) < 11 := by omega
        go_wp2
        go_round
        case rel => first | exact ⟨j + 1, by omega, by go_num⟩ | trivial
        case measure => simp [intOf]; omega
      · have lj : ¬ (j : Int) < 11 := by omega
        have CO := Lib.hid (fun W => one_any 0 0 W)
        simp only [beq_self_eq_true] at CO
        go_wp2_with (first | (go_at_call 35; refine (CO.out _).mono ?_; rintro e w' ⟨rfl, rfl⟩) | (go_at_call 27; refine (works_any _).mono ?_; rintro e w11 ⟨rfl, hb11⟩))
        go_ret
        exact ⟨rfl, B10.out.trans (hb11.mono B10.out.size)⟩
  · go_wp2_with (go_at_call 54; refine (next_one _).mono ?_; rintro e w' ⟨rfl, rfl⟩)
    refine (Weights_bad 3 4607182418800017409 _ (by decide +kernel)).mono ?_
    rintro e w' ⟨rfl, rfl⟩
    have hb2 := Lib.hid hb1
    have BD := Lib.hid (bad_of (cc := cc) (P := 4607182418800017409) HO.out HF.out.wf hN2 (by decide) (.inr ⟨HF.out.list le_M31 hN1 (by omega), by decide +kernel⟩))
    clear c0 c1 ez et r2 r3 r4 hz
    go_wp2_with fail
    obtain ⟨w2, hw2⟩ : ∃ w2, w2 = w1 := ⟨_, rfl⟩
    rw [← hw2] at BD hb2 ⊢
    clear hw2
    clear HO HF
    refine (BD.out.avg w2 (Below.refl _ _)).mono ?_
    rintro e w' ⟨rfl, rfl⟩
    go_wp2_with fail
    refine (BD.out.slope w2 (Below.refl _ _)).mono ?_
    rintro e w3 ⟨rfl, hb3⟩
    go_wp2_with fail
    refine (BD.out.curve w3 hb3).mono ?_
    rintro e w4 ⟨rfl, hb4⟩
    have B4 := Lib.hid ((hb2.out.trans (hb3.mono hb2.out.size)).trans (hb4.mono (Nat.le_trans hb2.out.size hb3.size)))
    clear hb2 hb3 hb4 BD
    go_wp2_with (go_at_call 31; refine (nil_avg _ _).mono ?_; rintro e w' ⟨rfl, rfl⟩)
    refine (nil_curve _).mono ?_
    rintro e w5 ⟨rfl, hb5⟩
    have B5 := Lib.hid (B4.out.trans (hb5.mono B4.out.size))
    clear B4 hb5
    go_wp2_with fail
    refine (Weights_bad _ _ _ (taken_low m _)).mono ?_
    rintro e w' ⟨rfl, rfl⟩
    go_wp2_with fail
    refine (Weights_bad _ _ _ (taken_high m _)).mono ?_
    rintro e w' ⟨rfl, rfl⟩
    go_wp2_with fail
    refine (Values_bad _ _ _ _ _ _ (.inl (by omega))).mono ?_
    rintro e w6 ⟨rfl, hb6⟩
    go_wp2_with fail
    refine (Values_bad _ _ _ _ _ _ (.inr (.inl ⟨by omega, by omega⟩))).mono ?_
    rintro e w7 ⟨rfl, hb7⟩
    go_wp2_with fail
    refine (Values_bad _ _ _ _ _ _ (.inr (.inr (.inl ⟨by omega, by omega⟩)))).mono ?_
    rintro e w8 ⟨rfl, hb8⟩
    go_wp2_with fail
    refine (Values_bad none 0 0 1 1 _ (.inr (.inr (.inr ⟨by omega, by omega, by omega, by omega⟩)))).mono ?_
    rintro e w9 ⟨rfl, hb9⟩
    have B5a := B5.out.alloc B5.out.size (.cells #[.int .i64 1, .int .i64 0, .int .i64 0] 66)
    have B6 := B5a.trans (hb6.mono B5a.size)
    have B7 := B6.trans (hb7.mono B6.size)
    have B8 := B7.trans (hb8.mono B7.size)
    have B9 := Lib.hid (B8.trans (hb9.mono B8.size))
    clear B5a B6 B7 B8 B5 hb6 hb7 hb8 hb9
    go_wp2
    have HC := Lib.hid (fun j (hj : j < 11) => cell_twos w9 25 hj)
    have B10 := Lib.hid (B9.out.alloc B9.out.size (.cells #[.int .i64 2, .int .i64 2, .int .i64 2, .int .i64 2, .int .i64 2, .int .i64 2, .int .i64 2, .int .i64 2, .int .i64 2, .int .i64 2, .int .i64 2] 25))
    clear B9
    generalize w9.alloc (.cells #[.int .i64 2, .int .i64 2, .int .i64 2, .int .i64 2, .int .i64 2, .int .i64 2, .int .i64 2, .int .i64 2, .int .i64 2, .int .i64 2, .int .i64 2] 25) = w10 at *
    go_loop [169] (fun i => ∃ j : Nat, j ≤ 11 ∧ i = .int .i64 j) (fun i => 11 - (intOf i).toNat)
    case atStart => exact ⟨0, Nat.zero_le _, rfl⟩
    case round =>
      obtain ⟨j, hj, rfl⟩ := hrel
      by_cases hjn : j < 11
      · have c2 := HC.out j hjn
        have lj : (j : Int) < 11 := by omega
        go_wp2
        go_round
        case rel => first | exact ⟨j + 1, by omega, by go_num⟩ | trivial
        case measure => simp [intOf]; omega
      · have lj : ¬ (j : Int) < 11 := by omega
        have CO := Lib.hid (fun W => one_any 0 0 W)
        simp only [beq_self_eq_true] at CO
        go_wp2_with (first | (go_at_call 35; refine (CO.out _).mono ?_; rintro e w' ⟨rfl, rfl⟩) | (go_at_call 27; refine (works_any _).mono ?_; rintro e w11 ⟨rfl, hb11⟩))
        go_ret
        exact ⟨rfl, B10.out.trans (hb11.mono B10.out.size)⟩
  · go_wp2_with fail
    refine (Weights_bad 3 9223372036854775809 _ (by decide +kernel)).mono ?_
    rintro e w' ⟨rfl, rfl⟩
    have hb2 := Lib.hid hb1
    have BD := Lib.hid (bad_of (cc := cc) (P := 9223372036854775809) HO.out HF.out.wf hN2 (by decide) (.inr ⟨HF.out.list le_M31 hN1 (by omega), by decide +kernel⟩))
    clear c0 c1 ez et r2 r3 r4 hz
    go_wp2_with fail
    obtain ⟨w2, hw2⟩ : ∃ w2, w2 = w1 := ⟨_, rfl⟩
    rw [← hw2] at BD hb2 ⊢
    clear hw2
    clear HO HF
    refine (BD.out.avg w2 (Below.refl _ _)).mono ?_
    rintro e w' ⟨rfl, rfl⟩
    go_wp2_with fail
    refine (BD.out.slope w2 (Below.refl _ _)).mono ?_
    rintro e w3 ⟨rfl, hb3⟩
    go_wp2_with fail
    refine (BD.out.curve w3 hb3).mono ?_
    rintro e w4 ⟨rfl, hb4⟩
    have B4 := Lib.hid ((hb2.out.trans (hb3.mono hb2.out.size)).trans (hb4.mono (Nat.le_trans hb2.out.size hb3.size)))
    clear hb2 hb3 hb4 BD
    go_wp2_with (go_at_call 31; refine (nil_avg _ _).mono ?_; rintro e w' ⟨rfl, rfl⟩)
    refine (nil_curve _).mono ?_
    rintro e w5 ⟨rfl, hb5⟩
    have B5 := Lib.hid (B4.out.trans (hb5.mono B4.out.size))
    clear B4 hb5
    go_wp2_with fail
    refine (Weights_bad _ _ _ (taken_low m _)).mono ?_
    rintro e w' ⟨rfl, rfl⟩
    go_wp2_with fail
    refine (Weights_bad _ _ _ (taken_high m _)).mono ?_
    rintro e w' ⟨rfl, rfl⟩
    go_wp2_with fail
    refine (Values_bad _ _ _ _ _ _ (.inl (by omega))).mono ?_
    rintro e w6 ⟨rfl, hb6⟩
    go_wp2_with fail
    refine (Values_bad _ _ _ _ _ _ (.inr (.inl ⟨by omega, by omega⟩))).mono ?_
    rintro e w7 ⟨rfl, hb7⟩
    go_wp2_with fail
    refine (Values_bad _ _ _ _ _ _ (.inr (.inr (.inl ⟨by omega, by omega⟩)))).mono ?_
    rintro e w8 ⟨rfl, hb8⟩
    go_wp2_with fail
    refine (Values_bad none 0 0 1 1 _ (.inr (.inr (.inr ⟨by omega, by omega, by omega, by omega⟩)))).mono ?_
    rintro e w9 ⟨rfl, hb9⟩
    have B5a := B5.out.alloc B5.out.size (.cells #[.int .i64 1, .int .i64 0, .int .i64 0] 66)
    have B6 := B5a.trans (hb6.mono B5a.size)
    have B7 := B6.trans (hb7.mono B6.size)
    have B8 := B7.trans (hb8.mono B7.size)
    have B9 := Lib.hid (B8.trans (hb9.mono B8.size))
    clear B5a B6 B7 B8 B5 hb6 hb7 hb8 hb9
    go_wp2
    have HC := Lib.hid (fun j (hj : j < 11) => cell_twos w9 25 hj)
    have B10 := Lib.hid (B9.out.alloc B9.out.size (.cells #[.int .i64 2, .int .i64 2, .int .i64 2, .int .i64 2, .int .i64 2, .int .i64 2, .int .i64 2, .int .i64 2, .int .i64 2, .int .i64 2, .int .i64 2] 25))
    clear B9
    generalize w9.alloc (.cells #[.int .i64 2, .int .i64 2, .int .i64 2, .int .i64 2, .int .i64 2, .int .i64 2, .int .i64 2, .int .i64 2, .int .i64 2, .int .i64 2, .int .i64 2] 25) = w10 at *
    go_loop [169] (fun i => ∃ j : Nat, j ≤ 11 ∧ i = .int .i64 j) (fun i => 11 - (intOf i).toNat)
    case atStart => exact ⟨0, Nat.zero_le _, rfl⟩
    case round =>
      obtain ⟨j, hj, rfl⟩ := hrel
      by_cases hjn : j < 11
      · have c2 := HC.out j hjn
        have lj : (j : Int) < 11 := by omega
        go_wp2
        go_round
        case rel => first | exact ⟨j + 1, by omega, by go_num⟩ | trivial
        case measure => simp [intOf]; omega
      · have lj : ¬ (j : Int) < 11 := by omega
        have CO := Lib.hid (fun W => one_any 0 0 W)
        simp only [beq_self_eq_true] at CO
        go_wp2_with (first | (go_at_call 35; refine (CO.out _).mono ?_; rintro e w' ⟨rfl, rfl⟩) | (go_at_call 27; refine (works_any _).mono ?_; rintro e w11 ⟨rfl, hb11⟩))
        go_ret
        exact ⟨rfl, B10.out.trans (hb11.mono B10.out.size)⟩
  · go_wp2_with (go_at_call 53; refine (inf_c _).mono ?_; rintro e w' ⟨rfl, rfl⟩)
    refine (Weights_bad 3 9218868437227405312 _ (by decide +kernel)).mono ?_
    rintro e w' ⟨rfl, rfl⟩
    have hb2 := Lib.hid hb1
    have BD := Lib.hid (bad_of (cc := cc) (P := 9218868437227405312) HO.out HF.out.wf hN2 (by decide) (.inr ⟨HF.out.list le_M31 hN1 (by omega), by decide +kernel⟩))
    clear c0 c1 ez et r2 r3 r4 hz
    go_wp2_with fail
    obtain ⟨w2, hw2⟩ : ∃ w2, w2 = w1 := ⟨_, rfl⟩
    rw [← hw2] at BD hb2 ⊢
    clear hw2
    clear HO HF
    refine (BD.out.avg w2 (Below.refl _ _)).mono ?_
    rintro e w' ⟨rfl, rfl⟩
    go_wp2_with fail
    refine (BD.out.slope w2 (Below.refl _ _)).mono ?_
    rintro e w3 ⟨rfl, hb3⟩
    go_wp2_with fail
    refine (BD.out.curve w3 hb3).mono ?_
    rintro e w4 ⟨rfl, hb4⟩
    have B4 := Lib.hid ((hb2.out.trans (hb3.mono hb2.out.size)).trans (hb4.mono (Nat.le_trans hb2.out.size hb3.size)))
    clear hb2 hb3 hb4 BD
    go_wp2_with (go_at_call 31; refine (nil_avg _ _).mono ?_; rintro e w' ⟨rfl, rfl⟩)
    refine (nil_curve _).mono ?_
    rintro e w5 ⟨rfl, hb5⟩
    have B5 := Lib.hid (B4.out.trans (hb5.mono B4.out.size))
    clear B4 hb5
    go_wp2_with fail
    refine (Weights_bad _ _ _ (taken_low m _)).mono ?_
    rintro e w' ⟨rfl, rfl⟩
    go_wp2_with fail
    refine (Weights_bad _ _ _ (taken_high m _)).mono ?_
    rintro e w' ⟨rfl, rfl⟩
    go_wp2_with fail
    refine (Values_bad _ _ _ _ _ _ (.inl (by omega))).mono ?_
    rintro e w6 ⟨rfl, hb6⟩
    go_wp2_with fail
    refine (Values_bad _ _ _ _ _ _ (.inr (.inl ⟨by omega, by omega⟩))).mono ?_
    rintro e w7 ⟨rfl, hb7⟩
    go_wp2_with fail
    refine (Values_bad _ _ _ _ _ _ (.inr (.inr (.inl ⟨by omega, by omega⟩)))).mono ?_
    rintro e w8 ⟨rfl, hb8⟩
    go_wp2_with fail
    refine (Values_bad none 0 0 1 1 _ (.inr (.inr (.inr ⟨by omega, by omega, by omega, by omega⟩)))).mono ?_
    rintro e w9 ⟨rfl, hb9⟩
    have B5a := B5.out.alloc B5.out.size (.cells #[.int .i64 1, .int .i64 0, .int .i64 0] 66)
    have B6 := B5a.trans (hb6.mono B5a.size)
    have B7 := B6.trans (hb7.mono B6.size)
    have B8 := B7.trans (hb8.mono B7.size)
    have B9 := Lib.hid (B8.trans (hb9.mono B8.size))
    clear B5a B6 B7 B8 B5 hb6 hb7 hb8 hb9
    go_wp2
    have HC := Lib.hid (fun j (hj : j < 11) => cell_twos w9 25 hj)
    have B10 := Lib.hid (B9.out.alloc B9.out.size (.cells #[.int .i64 2, .int .i64 2, .int .i64 2, .int .i64 2, .int .i64 2, .int .i64 2, .int .i64 2, .int .i64 2, .int .i64 2, .int .i64 2, .int .i64 2] 25))
    clear B9
    generalize w9.alloc (.cells #[.int .i64 2, .int .i64 2, .int .i64 2, .int .i64 2, .int .i64 2, .int .i64 2, .int .i64 2, .int .i64 2, .int .i64 2, .int .i64 2, .int .i64 2] 25) = w10 at *
    go_loop [169] (fun i => ∃ j : Nat, j ≤ 11 ∧ i = .int .i64 j) (fun i => 11 - (intOf i).toNat)
    case atStart => exact ⟨0, Nat.zero_le _, rfl⟩
    case round =>
      obtain ⟨j, hj, rfl⟩ := hrel
      by_cases hjn : j < 11
      · have c2 := HC.out j hjn
        have lj : (j : Int) < 11 := by omega
        go_wp2
        go_round
        case rel => first | exact ⟨j + 1, by omega, by go_num⟩ | trivial
        case measure => simp [intOf]; omega
      · have lj : ¬ (j : Int) < 11 := by omega
        have CO := Lib.hid (fun W => one_any 0 0 W)
        simp only [beq_self_eq_true] at CO
        go_wp2_with (first | (go_at_call 35; refine (CO.out _).mono ?_; rintro e w' ⟨rfl, rfl⟩) | (go_at_call 27; refine (works_any _).mono ?_; rintro e w11 ⟨rfl, hb11⟩))
        go_ret
        exact ⟨rfl, B10.out.trans (hb11.mono B10.out.size)⟩

theorem canonWrong_walkI (A : Option Addr) (n c : Nat) (l : Nat → Int) (p y m : Int) (w : World) (h : IntsIn w .i32 A n l) (h1 : 0 ≤ p) (h2 : p ≤ 65535) (h3 : 0 ≤ y) (h4 : y ≤ 255) :
    Calls Try.prog 19 #[.slice A n c, .int .u16 p, .int .u8 y, .int .i64 m] w fun e w' => e = .returned (.bool true) ∧ Below w.heap.size w w' := by
  obtain ⟨p, rfl⟩ := Int.eq_ofNat_of_zero_le h1
  obtain ⟨y, rfl⟩ := Int.eq_ofNat_of_zero_le h3
  exact canonWrong_walk A n c l p y m w h (by omega) (by omega)
end Go.Proofs.Ytcgoicijbmhmpaa
