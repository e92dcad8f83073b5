/-
  The three laws on searches.
-/
import Derived.Test.YtcgoicijbmhmpaaE14
import Derived.Test.YtcgoicijbmhmpaaD6
namespace Go.Proofs.Ytcgoicijbmhmpaa
open Go.RowKit Go.Fl Go.Deep

theorem avf_fin {n : Nat} {f : Nat → Nat} (hw : ∀ j, j < n → f j < 2 ^ 64) (hl : listB n f = true) {p : Nat} (hp : p < 2 ^ 64) (hpr : prob p = true) : isFin (avf f (n - 1) p) := by
  obtain ⟨g1, g2, _⟩ := listB_parts hl
  have hv := vals_fin hw hl
  exact (avg_ok (ok_abs (by omega) hp hpr) (fun k hk => ⟨(hv k (by omega)).1, Rat.le_trans (hv k (by omega)).2 (by decide +kernel)⟩)).1
theorem fle_of_not_lt {x y : Nat} (hx : isFin x) (hy : isFin y) (h : flt x y = false) : fv y ≤ fv x := by
  refine Rat.not_lt.1 fun h1 => ?_
  rw [(flt_iff hx hy).2 h1] at h
  exact Bool.noConfusion h
theorem fle_of_not_gt {x y : Nat} (hx : isFin x) (hy : isFin y) (h : fgt x y = false) : fv x ≤ fv y := by
  refine Rat.not_lt.1 fun h1 => ?_
  rw [(fgt_iff hx hy).2 h1] at h
  exact Bool.noConfusion h

/-- What both programs answer to a search. -/
theorem solve_both (n t : Nat) (f : Nat → Nat) (ht : t < 2 ^ 64) : ∃ x z, isFin x ∧ (z = 0 ∨ (x = 0 ∧ ¬ z = 0)) ∧
    (z = 0 → listB n f = true ∧ inB t = true ∧ x = (blo (avf f (n - 1)) t 60).2 ∧ fgt t (f (n - 1)) = false) ∧
    (∀ W A c, ListIn W A n f → Calls Try.prog 58 #[.slice A n c, .float .f64 t] W (Says x z W)) ∧ (∀ W A c, ListIn W A n f → Calls Try.prog 59 #[.slice A n c, .float .f64 t] W (Says x z W)) := by
  cases hb : listB n f && inB t with
  | false => exact ⟨0, 2, isFin_zero, .inr ⟨rfl, by decide⟩, fun h => absurd h (by decide), fun W A c h => Solve_bad A n c t f W h ht hb, fun W A c h => refSolve_bad A n c t f W h ht hb⟩
  | true =>
    obtain ⟨hl, hi⟩ := (Bool.and_eq_true _ _).mp hb
    obtain ⟨m, rfl⟩ : ∃ m, n = m + 1 := ⟨n - 1, by have := (listB_parts hl).1; omega⟩
    rw [Nat.add_sub_cancel]
    obtain ⟨j, hj⟩ := first_ex (fun i => flt (f (i + 1)) (f i) = false) m
    rcases Nat.lt_or_ge j m with hjm | hjm
    · have ans : Answer f m t j 0 8 := ⟨fun _ => ⟨rfl, rfl⟩, fun h => by omega, fun h => by omega⟩
      exact ⟨0, 8, isFin_zero, .inr ⟨rfl, by decide⟩, fun h => absurd h (by decide), fun W A c h => Solve_any A m c t j 0 8 f W h ht hl hi hj ans, fun W A c h => refSolve_any A m c t j 0 8 f W h ht hl hi hj ans⟩
    · obtain rfl : j = m := by have := hj.1; omega
      cases ho : (flt t (f 0) || fgt t (f j)) with
      | true =>
        have ans : Answer f j t j 0 5 := ⟨fun h => by omega, fun _ _ => ⟨rfl, rfl⟩, fun _ h => absurd (ho.symm.trans h) (by decide)⟩
        exact ⟨0, 5, isFin_zero, .inr ⟨rfl, by decide⟩, fun h => absurd h (by decide), fun W A c h => Solve_any A j c t j 0 5 f W h ht hl hi hj ans, fun W A c h => refSolve_any A j c t j 0 5 f W h ht hl hi hj ans⟩
      | false =>
        have ans : Answer f j t j (blo (avf f j) t 60).2 0 := ⟨fun h => by omega, fun _ h => absurd (ho.symm.trans h) (by decide), fun _ _ => ⟨rfl, rfl⟩⟩
        exact ⟨_, 0, (blo_in (avf f j) t 60).fhi, .inl rfl, fun _ => ⟨hl, hi, rfl, (Bool.or_eq_false_iff.1 ho).2⟩, fun W A c h => Solve_any A j c t j _ 0 f W h ht hl hi hj ans, fun W A c h => refSolve_any A j c t j _ 0 f W h ht hl hi hj ans⟩

theorem prob_of {p : Nat} (h : isFin p) (h0 : 0 ≤ fv p) (h1 : fv p ≤ 1) : prob p = true := by
  unfold prob
  rw [Bool.and_eq_true]
  exact ⟨(fge_iff h isFin_zero).2 (by rw [fv_zero]; exact h0), (fle_iff h isFin_one).2 (by rw [fv_one]; exact h1)⟩

/-- A search that gives a number: it reaches the target. -/
theorem reached {n t : Nat} {f : Nat → Nat} (hw : ∀ j, j < n → f j < 2 ^ 64) (ht : t < 2 ^ 64) (hl : listB n f = true) (hi : inB t = true) (ho : fgt t (f (n - 1)) = false) (hn : n ≤ 60) :
    prob (blo (avf f (n - 1)) t 60).2 = true ∧ isFin (blo (avf f (n - 1)) t 60).2 ∧ fgt (blo (avf f (n - 1)) t 60).2 0 = true ∧ fle (blo (avf f (n - 1)) t 60).2 one = true ∧ fge (avf f (n - 1) (blo (avf f (n - 1)) t 60).2) t = true := by
  have I := blo_in (avf f (n - 1)) t 60
  have L := (blo_low (avf f (n - 1)) t 60 (by omega)).1
  have hp := two_pos (-((60 : Nat) : Int))
  have h0 : 0 < fv (blo (avf f (n - 1)) t 60).2 := by grind
  have pr := prob_of I.fhi (Rat.le_of_lt h0) I.one
  obtain ⟨g1, g2, _⟩ := listB_parts hl
  have hv := vals_fin hw hl
  have tf := (inB_fin ht hi).1
  refine ⟨pr, I.fhi, (fgt_iff I.fhi isFin_zero).2 (by rw [fv_zero]; exact h0), (fle_iff I.fhi isFin_one).2 (by rw [fv_one]; exact I.one), ?_⟩
  have a1 : absb one = one := by unfold absb one; rfl
  have h1 : flt (avf f (n - 1) one) t = false := by
    have e : isFin (avf f (n - 1) one) ∧ fv (avf f (n - 1) one) = fv (f (n - 1)) := by
      unfold avf
      rw [a1]
      exact (avg_ends (M := 1267650600228229401496703205376) (Rat.le_refl) (fun k hk => hv k (by omega)) (by omega) (by omega) isFin_one).2 fv_one
    refine flt_false e.1 tf ?_
    rw [e.2]
    exact fle_of_not_gt tf (hv (n - 1) (by omega)).1 ho
  have h2 := blo_hi (avf f (n - 1)) t h1 60
  have f2 := avf_fin hw hl I.fhi.1 pr
  exact (fge_iff f2 tf).2 (fle_of_not_lt f2 tf h2)
/-- Two searches with a greater target. -/
theorem monotone {n t u : Nat} {f : Nat → Nat} (hw : ∀ j, j < n → f j < 2 ^ 64) (ht : t < 2 ^ 64) (hu : u < 2 ^ 64) (hl : listB n f = true) (hi : inB t = true) (hi2 : inB u = true) (hle : fle t u = true) :
    fle (blo (avf f (n - 1)) t 60).2 (blo (avf f (n - 1)) u 60).2 = true := by
  have tf := (inB_fin ht hi).1
  have uf := (inB_fin hu hi2).1
  refine (fle_iff (blo_in _ t 60).fhi (blo_in _ u 60).fhi).2 (blo_hi_mono _ t u (fun lo hi hI h => ?_) 60)
  have mp := mid_prob hI
  have f2 := avf_fin hw hl mp.2 mp.1
  have h3 := (flt_iff f2 tf).1 h
  have h4 := (fle_iff tf uf).1 hle
  exact (flt_iff f2 uf).2 (by grind)
attribute [local irreducible] blo mid avf

set_option maxRecDepth 100000 in
set_option maxHeartbeats 4000000 in
theorem critSolves_walk (A : Option Addr) (n c t : Nat) (f : Nat → Nat) (w : World) (h : ListIn w A n f) (ht : t < 2 ^ 64) :
    Calls Try.prog 24 #[.slice A n c, .float .f64 t] w fun e w' => e = .returned (.bool true) ∧ Below w.heap.size w w' := by
  by_cases hn : (60 : Int) < n
  · clear h
    go_enter Try.func24, Try.ntmps24
    go_wp2_with (go_at_call 45; refine (works32_any _).mono ?_; rintro e w2 ⟨rfl, hb2⟩)
    go_ret
    exact ⟨rfl, hb2⟩
  · obtain ⟨x, z, hx, _, _, C1, C2⟩ := solve_both n t f ht
    have D1 := Lib.hid (C1 w A c h)
    have D2 := Lib.hid (fun W hW => C2 W A c (h.below hW))
    have o1 := feq_self hx
    clear C1 C2 h hx
    go_enter Try.func24, Try.ntmps24
    go_wp2_with fail
    refine D1.out.mono ?_
    rintro e w1 ⟨rfl, hb1⟩
    go_wp2_with fail
    refine (D2.out w1 hb1).mono ?_
    rintro e w2 ⟨rfl, hb2⟩
    go_wp2_with (go_at_call 45; refine (works32_any _).mono ?_; rintro e w3 ⟨rfl, hb3⟩)
    go_ret
    exact ⟨rfl, (hb1.trans (hb2.mono hb1.size)).trans (hb3.mono (Nat.le_trans hb1.size hb2.size))⟩

set_option maxRecDepth 100000 in
set_option maxHeartbeats 4000000 in
theorem critReached_walk (A : Option Addr) (n c t : Nat) (f : Nat → Nat) (w : World) (h : ListIn w A n f) (ht : t < 2 ^ 64) :
    Calls Try.prog 25 #[.slice A n c, .float .f64 t] w fun e w' => e = .returned (.bool true) ∧ Below w.heap.size w w' := by
  by_cases hn : (60 : Int) < n
  · clear h
    go_enter Try.func25, Try.ntmps25
    go_wp2_with (go_at_call 45; refine (works32_any _).mono ?_; rintro e w2 ⟨rfl, hb2⟩)
    go_ret
    exact ⟨rfl, hb2⟩
  · obtain ⟨x, z, hx, hz, hok, C1, _⟩ := solve_both n t f ht
    have D1 := Lib.hid (C1 w A c h)
    clear C1
    rcases hz with rfl | ⟨rfl, hz⟩
    · obtain ⟨hl, hi, hxe, ho⟩ := hok rfl
      obtain ⟨p1, p2, p3, p4, p5⟩ := reached h.wf ht hl hi ho (by omega)
      rw [← hxe] at p1 p2 p3 p4 p5
      have CA := Lib.hid (fun W (hW : ListIn W A n f) => show Calls Try.prog 31 #[.slice A n c, .float .f64 x] W fun e w' => e = .returned (.tuple #[.float .f64 (avf f (n - 1) x), .int .i64 0]) ∧ Below W.heap.size W w' by
        rw [show avf f (n - 1) x = avg f (n - 1) (absb x) by unfold avf; rfl]; exact Average_ok A n c x f W hW p2.1 hl p1)
      have HA := Lib.hid h
      have o1 : (FloatKind.f64.format.order x 0 == some Ordering.gt) = true := p3
      have o2 : (FloatKind.f64.format.order x 4607182418800017408 == some Ordering.lt || FloatKind.f64.format.order x 4607182418800017408 == some Ordering.eq) = true := p4
      have o3 : (FloatKind.f64.format.order (avf f (n - 1) x) t == some Ordering.gt || FloatKind.f64.format.order (avf f (n - 1) x) t == some Ordering.eq) = true := p5
      generalize avf f (n - 1) x = v at *
      clear h hl hi ho hx hok hxe p1 p2 p3 p4 p5
      go_enter Try.func25, Try.ntmps25
      go_wp2_with fail
      refine D1.out.mono ?_
      rintro e w1 ⟨rfl, hb1⟩
      go_wp2_with fail
      refine (CA.out w1 (HA.out.below hb1)).mono ?_
      rintro e w2 ⟨rfl, hb2⟩
      go_wp2_with (go_at_call 45; refine (works32_any _).mono ?_; rintro e w3 ⟨rfl, hb3⟩)
      go_ret
      exact ⟨rfl, (hb1.trans (hb2.mono hb1.size)).trans (hb3.mono (Nat.le_trans hb1.size hb2.size))⟩
    · have o1 := feq_self isFin_zero
      clear hok hx h
      go_enter Try.func25, Try.ntmps25
      go_wp2_with fail
      refine D1.out.mono ?_
      rintro e w1 ⟨rfl, hb1⟩
      go_wp2_with (go_at_call 45; refine (works32_any _).mono ?_; rintro e w3 ⟨rfl, hb3⟩)
      go_ret
      exact ⟨rfl, hb1.trans (hb3.mono hb1.size)⟩

set_option maxRecDepth 100000 in
set_option maxHeartbeats 4000000 in
theorem critMonotone_walk (A : Option Addr) (n c t u : Nat) (f : Nat → Nat) (w : World) (h : ListIn w A n f) (ht : t < 2 ^ 64) (hu : u < 2 ^ 64) :
    Calls Try.prog 26 #[.slice A n c, .float .f64 t, .float .f64 u] w fun e w' => e = .returned (.bool true) ∧ Below w.heap.size w w' := by
  by_cases hn : (60 : Int) < n
  · clear h
    go_enter Try.func26, Try.ntmps26
    go_wp2_with (go_at_call 45; refine (works32_any _).mono ?_; rintro e w2 ⟨rfl, hb2⟩)
    go_ret
    exact ⟨rfl, hb2⟩
  · cases hle : fle t u with
    | false =>
      have o1 : (FloatKind.f64.format.order t u == some Ordering.lt || FloatKind.f64.format.order t u == some Ordering.eq) = false := hle
      clear h hle
      go_enter Try.func26, Try.ntmps26
      go_wp2_with (go_at_call 45; refine (works32_any _).mono ?_; rintro e w2 ⟨rfl, hb2⟩)
      go_ret
      exact ⟨rfl, hb2⟩
    | true =>
      have o1 : (FloatKind.f64.format.order t u == some Ordering.lt || FloatKind.f64.format.order t u == some Ordering.eq) = true := hle
      obtain ⟨x, z, _, hz, hok, C1, _⟩ := solve_both n t f ht
      obtain ⟨x2, z2, _, hz2, hok2, C2, _⟩ := solve_both n u f hu
      have D1 := Lib.hid (C1 w A c h)
      have D2 := Lib.hid (fun W hW => C2 W A c (h.below hW))
      clear C1 C2
      by_cases e1 : z = 0
      · by_cases e2 : z2 = 0
        · obtain ⟨hl, hi, hxe, ho⟩ := hok e1
          obtain ⟨_, hi2, hxe2, _⟩ := hok2 e2
          have o2 : (FloatKind.f64.format.order x x2 == some Ordering.lt || FloatKind.f64.format.order x x2 == some Ordering.eq) = true := by
            rw [hxe, hxe2]; exact monotone h.wf ht hu hl hi hi2 hle
          subst e1
          subst e2
          clear h hle hok hok2 hz hz2 hl hi hxe ho hi2 hxe2
          go_enter Try.func26, Try.ntmps26
          go_wp2_with fail
          refine D1.out.mono ?_
          rintro e w1 ⟨rfl, hb1⟩
          go_wp2_with fail
          refine (D2.out w1 hb1).mono ?_
          rintro e w2 ⟨rfl, hb2⟩
          go_wp2_with (go_at_call 45; refine (works32_any _).mono ?_; rintro e w3 ⟨rfl, hb3⟩)
          go_ret
          exact ⟨rfl, (hb1.trans (hb2.mono hb1.size)).trans (hb3.mono (Nat.le_trans hb1.size hb2.size))⟩
        · subst e1
          clear h hle hok hok2 hz hz2
          go_enter Try.func26, Try.ntmps26
          go_wp2_with fail
          refine D1.out.mono ?_
          rintro e w1 ⟨rfl, hb1⟩
          go_wp2_with fail
          refine (D2.out w1 hb1).mono ?_
          rintro e w2 ⟨rfl, hb2⟩
          go_wp2_with (go_at_call 45; refine (works32_any _).mono ?_; rintro e w3 ⟨rfl, hb3⟩)
          go_ret
          exact ⟨rfl, (hb1.trans (hb2.mono hb1.size)).trans (hb3.mono (Nat.le_trans hb1.size hb2.size))⟩
      · clear h hle hok hok2 hz hz2
        go_enter Try.func26, Try.ntmps26
        go_wp2_with fail
        refine D1.out.mono ?_
        rintro e w1 ⟨rfl, hb1⟩
        go_wp2_with fail
        refine (D2.out w1 hb1).mono ?_
        rintro e w2 ⟨rfl, hb2⟩
        go_wp2_with (go_at_call 45; refine (works32_any _).mono ?_; rintro e w3 ⟨rfl, hb3⟩)
        go_ret
        exact ⟨rfl, (hb1.trans (hb2.mono hb1.size)).trans (hb3.mono (Nat.le_trans hb1.size hb2.size))⟩
end Go.Proofs.Ytcgoicijbmhmpaa
