/-
  The second chapter: crossings with their first place, and its own self-test.
-/
import Derived.Test.YtcgoicijbmhmpaaC7
namespace Go.Proofs.Ytcgoicijbmhmpaa
open Go.RowKit Go.Fl Go.Deep
attribute [local go_sem] run_store_float

/-- The first place up to N, if there is one, where something does not hold. -/
def First (P : Nat → Prop) (N j : Nat) : Prop := j ≤ N ∧ (∀ i, i < j → P i) ∧ (j < N → ¬ P j)
theorem first_ex (P : Nat → Prop) (N : Nat) : ∃ j, First P N j := by
  induction N with
  | zero => exact ⟨0, Nat.le_refl _, fun i hi => by omega, fun h => by omega⟩
  | succ N ih =>
    obtain ⟨j, h1, h2, h3⟩ := ih
    rcases Nat.lt_or_ge j N with h | h
    · exact ⟨j, by omega, h2, fun _ => h3 h⟩
    · obtain rfl : j = N := by omega
      by_cases hp : P j
      · exact ⟨j + 1, Nat.le_refl _, fun i hi => by rcases Nat.lt_or_ge i j with h | h; exact h2 i h; (obtain rfl : i = j := by omega); exact hp, fun h => by omega⟩
      · exact ⟨j, by omega, h2, fun _ => hp⟩
theorem Cross_ok (A B : Option Addr) (n c m d s : Nat) (f g : Nat → Nat) (w : World) (h : ListIn w A n f) (hg : ListIn w B m g) (hl : listB n f = true) (hl2 : listB m g = true) (h1 : 1 ≤ s) (h2 : s ≤ 1000)
    (j : Nat) (hj : First (fun i => sgs f g n m s i = sgs f g n m s 0) (s + 1) j) :
    Calls Try.prog 48 #[.slice A n c, .slice B m d, .int .i64 (s : Nat)] w fun e w' => e = .returned (.tuple #[.float .f64 (if j ≤ s then pt s j else 0), .bool (decide (j ≤ s)), .int .i64 0]) ∧ Below w.heap.size w w' :=
  callsIn_wide.1 (Cross_in A B n c m d s f g w h hg hl hl2 h1 h2 j hj.1 hj.2.1 (fun hs => hj.2.2 (by omega)))

set_option maxRecDepth 100000 in
set_option maxHeartbeats 2000000 in
theorem Cross_bad (A B : Option Addr) (n c m d : Nat) (s : Int) (f g : Nat → Nat) (w : World) (h : ListIn w A n f) (hg : ListIn w B m g) (hbad : (listB n f && (listB m g && stepsB s)) = false) :
    Calls Try.prog 48 #[.slice A n c, .slice B m d, .int .i64 s] w fun e w' => e = .returned (.tuple #[.float .f64 0, .bool false, .int .i64 2]) ∧ Below w.heap.size w w' := by
  have b5 : Below w.heap.size w (((((w.alloc (.cells #[.slice A n c] 24)).alloc (.cells #[.slice B m d] 24)).alloc (.cells #[.float .f64 0] 22)).alloc (.cells #[.bool false] 4)).alloc (.cells #[.int .i64 0] 25)) :=
    (((((Below.refl _ w).alloc (Nat.le_refl _) _).alloc (by simp) _).alloc (by simp <;> omega) _).alloc (by simp <;> omega) _).alloc (by simp <;> omega) _
  have B5 := Lib.hid b5
  have HA := Lib.hid h
  have HG := Lib.hid hg
  have CL := Lib.hid (fun W (hW : ListIn W A n f) => cisList_any A n c f W hW)
  have CM := Lib.hid (fun W (hW : ListIn W B m g) => cisList_any B m d g W hW)
  have CS := Lib.hid (fun W => isSteps_any s W)
  clear h hg b5
  cases hl : listB n f with
  | false =>
    rw [hl] at CL
    clear hl hbad
    go_enter Try.func48, Try.ntmps48
    go_wp2_with (go_at_call 73; refine (CL.out _ (HA.out.below B5.out)).mono ?_; rintro e w' ⟨rfl, rfl⟩)
    go_wp2
    refine bodyPost_ret (v := .tuple #[.float .f64 0, .bool false, .int .i64 2]) (by simp [results, Try.results48, go_sem]) rfl ⟨rfl, ?_⟩
    exact (((((Below.refl _ w).alloc (Nat.le_refl _) _).alloc (by simp) _).alloc (by simp <;> omega) _).alloc (by simp <;> omega) _).alloc (by simp <;> omega) _
  | true =>
    rw [hl] at CL hbad
    rw [Bool.true_and] at hbad
    clear hl
    cases hl2 : listB m g with
    | false =>
      rw [hl2] at CM
      clear hl2 hbad
      go_enter Try.func48, Try.ntmps48
      go_wp2_with fail
      refine (CL.out _ (HA.out.below B5.out)).mono ?_
      rintro e w' ⟨rfl, rfl⟩
      go_wp2_with fail
      refine (CM.out _ (HG.out.below B5.out)).mono ?_
      rintro e w' ⟨rfl, rfl⟩
      go_wp2
      refine bodyPost_ret (v := .tuple #[.float .f64 0, .bool false, .int .i64 2]) (by simp [results, Try.results48, go_sem]) rfl ⟨rfl, ?_⟩
      exact (((((Below.refl _ w).alloc (Nat.le_refl _) _).alloc (by simp) _).alloc (by simp <;> omega) _).alloc (by simp <;> omega) _).alloc (by simp <;> omega) _
    | true =>
      rw [hl2] at CM hbad
      rw [Bool.true_and] at hbad
      rw [hbad] at CS
      clear hl2 hbad
      go_enter Try.func48, Try.ntmps48
      go_wp2_with fail
      refine (CL.out _ (HA.out.below B5.out)).mono ?_
      rintro e w' ⟨rfl, rfl⟩
      go_wp2_with fail
      refine (CM.out _ (HG.out.below B5.out)).mono ?_
      rintro e w' ⟨rfl, rfl⟩
      go_wp2_with fail
      refine (CS.out _).mono ?_
      rintro e w' ⟨rfl, rfl⟩
      go_wp2
      refine bodyPost_ret (v := .tuple #[.float .f64 0, .bool false, .int .i64 2]) (by simp [results, Try.results48, go_sem]) rfl ⟨rfl, ?_⟩
      exact (((((Below.refl _ w).alloc (Nat.le_refl _) _).alloc (by simp) _).alloc (by simp <;> omega) _).alloc (by simp <;> omega) _).alloc (by simp <;> omega) _

def tri (j : Nat) : Nat := if j = 1 then 4607182418800017408 else 0
def asc (j : Nat) : Nat := if j = 0 then 0 else 4607182418800017408
def des (j : Nat) : Nat := if j = 0 then 4607182418800017408 else 0
def nums (j : Nat) : Nat := if j = 0 then 4607182418800017408 else if j = 1 then 4611686018427387904 else 4618441417868443648
theorem tri_list : listB 3 tri = true := by decide +kernel
theorem asc_list : listB 2 asc = true := by decide +kernel
theorem des_list : listB 2 des = true := by decide +kernel
theorem nums_list : listB 3 nums = true := by decide +kernel
theorem ex_peak : pt 4 (gtop (avs tri 3 4) 4) = 4602678819172646912 := by decide +kernel
theorem ex_mean : mean nums 3 = 4613937818241073152 := by decide +kernel
theorem ex_s1 : sgs asc des 2 2 4 1 = sgs asc des 2 2 4 0 := by decide +kernel
theorem ex_s2 : sgs asc des 2 2 4 2 ≠ sgs asc des 2 2 4 0 := by decide +kernel
theorem ex_pt : pt 4 2 = 4602678819172646912 := by decide +kernel
theorem ex_first : First (fun i => sgs asc des 2 2 4 i = sgs asc des 2 2 4 0) (4 + 1) 2 :=
  ⟨by omega, fun i hi => by
    match i, hi with
    | 0, _ => rfl
    | 1, _ => exact ex_s1, fun _ => ex_s2⟩

theorem wpeak (W : World) : Calls Try.prog 46 #[.slice (some ⟨W.heap.size, 0, none⟩) 3 3, .int .i64 4] (W.alloc (.cells #[.float .f64 0, .float .f64 4607182418800017408, .float .f64 0] 22))
    fun e w' => e = .returned (.tuple #[.float .f64 4602678819172646912, .int .i64 0]) ∧ Below W.heap.size W w' :=
  (Peak_ok (some ⟨W.heap.size, 0, none⟩) 3 3 4 tri _ ⟨new3 W _ _ _ tri rfl rfl rfl, fun j hj => lt3 (p := fun j => tri j < 2 ^ 64) hj (by decide) (by decide) (by decide), by unfold maxLen; omega⟩ tri_list (by omega) (by omega)).mono
    fun e w' ⟨h1, h2⟩ => ⟨by rw [h1, ex_peak], ((Below.refl _ W).alloc (Nat.le_refl _) _).trans (h2.mono (by simp))⟩
theorem wmean (W : World) : Calls Try.prog 50 #[.slice (some ⟨W.heap.size, 0, none⟩) 3 3] (W.alloc (.cells #[.float .f64 4607182418800017408, .float .f64 4611686018427387904, .float .f64 4618441417868443648] 22))
    fun e w' => e = .returned (.tuple #[.float .f64 4613937818241073152, .float .f64 (vari nums 3), .int .i64 0]) ∧ Below W.heap.size W w' :=
  (Mean_ok (some ⟨W.heap.size, 0, none⟩) 3 3 nums _ ⟨new3 W _ _ _ nums rfl rfl rfl, fun j hj => lt3 (p := fun j => nums j < 2 ^ 64) hj (by decide) (by decide) (by decide), by unfold maxLen; omega⟩ nums_list).mono
    fun e w' ⟨h1, h2⟩ => ⟨by rw [h1, ex_mean], by rw [← h2]; exact (Below.refl _ W).alloc (Nat.le_refl _) _⟩
theorem wcross (W : World) : Calls Try.prog 48 #[.slice (some ⟨W.heap.size, 0, none⟩) 2 2, .slice (some ⟨W.heap.size + 1, 0, none⟩) 2 2, .int .i64 4] ((W.alloc (.cells #[.float .f64 0, .float .f64 4607182418800017408] 22)).alloc (.cells #[.float .f64 4607182418800017408, .float .f64 0] 22))
    fun e w' => e = .returned (.tuple #[.float .f64 4602678819172646912, .bool true, .int .i64 0]) ∧ Below W.heap.size W w' :=
  (Cross_ok (some ⟨W.heap.size, 0, none⟩) (some ⟨W.heap.size + 1, 0, none⟩) 2 2 2 2 4 asc des _
    ⟨(new2 W _ _ asc rfl rfl).alloc _, fun j hj => by match j, hj with
      | 0, _ => decide
      | 1, _ => decide, by unfold maxLen; omega⟩
    ⟨by have := new2 (W.alloc (.cells #[.float .f64 0, .float .f64 4607182418800017408] 22)) 4607182418800017408 0 des rfl rfl; rwa [World.size_alloc] at this, fun j hj => by match j, hj with
      | 0, _ => decide
      | 1, _ => decide, by unfold maxLen; omega⟩
    asc_list des_list (by omega) (by omega) 2 ex_first).mono
    fun e w' ⟨h1, h2⟩ => ⟨by rw [h1, if_pos (by omega), ex_pt]; rfl, (((Below.refl _ W).alloc (Nat.le_refl _) _).alloc (by simp) _).trans (h2.mono (by simp; omega))⟩

set_option maxRecDepth 100000 in
set_option maxHeartbeats 2000000 in
/-- The second chapter's self-test answers true. -/
theorem works32_any (w : World) : Calls Try.prog 45 #[] w fun e w' => e = .returned (.bool true) ∧ Below w.heap.size w w' := by
  have f1 : (FloatKind.f64.format.order 4602678819172646912 4602678819172646912 == some Ordering.eq) = true := by decide +kernel
  have f2 : (FloatKind.f64.format.order 4613937818241073152 4613937818241073152 == some Ordering.eq) = true := by decide +kernel
  go_enter Try.func45, Try.ntmps45
  go_wp2_with fail
  refine (wpeak _).mono ?_
  rintro e w1 ⟨rfl, hb1⟩
  go_wp2_with fail
  refine (wcross _).mono ?_
  rintro e w2 ⟨rfl, hb2⟩
  go_wp2_with fail
  refine (wmean _).mono ?_
  rintro e w3 ⟨rfl, hb3⟩
  go_wp2
  go_ret
  exact ⟨rfl, (hb1.trans (hb2.mono hb1.size)).trans (hb3.mono (Nat.le_trans hb1.size hb2.size))⟩
end Go.Proofs.Ytcgoicijbmhmpaa
