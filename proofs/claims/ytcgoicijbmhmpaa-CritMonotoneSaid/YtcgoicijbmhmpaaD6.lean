/-
  The walk of the law on the ends.
-/
import Derived.Test.YtcgoicijbmhmpaaD5
namespace Go.Proofs.Ytcgoicijbmhmpaa
open Go.RowKit Go.Fl Go.Deep

/-- The averages of whole numbers, as asked for at the ends and for equal values. -/
theorem avg_ends {f : Nat → Nat} {n p : Nat} {M : Rat} (hM : M ≤ 1267650600228229401496703205376) (hf : Whole f n M) (h1 : 1 ≤ n) (h2 : n ≤ 16385) (hp : isFin p) :
    (fv p = 0 → isFin (avg f (n - 1) p) ∧ fv (avg f (n - 1) p) = fv (f 0)) ∧ (fv p = 1 → isFin (avg f (n - 1) p) ∧ fv (avg f (n - 1) p) = fv (f (n - 1))) := by
  refine ⟨fun h => ?_, fun h => ?_⟩
  · exact avg_at_zero (p := p) ⟨by omega, hp, by grind, by grind⟩ h hM (fun k hk => hf k (by omega)) (fun k hk => term_eq f _ p k hk)
  · exact avg_at_one (p := p) ⟨by omega, hp, by grind, by grind⟩ h hM (fun k hk => hf k (by omega)) (fun k hk => term_eq f _ p k hk)

theorem avg_close {f : Nat → Nat} {n p : Nat} {M : Rat} (hM1 : 1 ≤ M) (hM : M ≤ 1267650600228229401496703205376) (hf : Whole f n M) (h1 : 1 ≤ n) (h2 : n ≤ 2048) (h : Ok (n - 1) p) :
    isFin (avg f (n - 1) p) ∧ fv (avg f (n - 1) p) - ex (fv p) (n - 1) (fun k => fv (f k)) ≤ M / 8589934592 ∧ ex (fv p) (n - 1) (fun k => fv (f k)) - fv (avg f (n - 1) p) ≤ M / 8589934592 :=
  avg_near h (by omega) hM1 hM (fun k hk => hf k (by omega)) (fun k hk => term_eq f _ p k hk)

theorem ex_congr {P : Rat} {m : Nat} {f g : Nat → Rat} (h : ∀ k, k ≤ m → f k = g k) : ex P m f = ex P m g := by
  unfold ex; exact rsum_congr fun k hk => by rw [h k (by omega)]

theorem abs_big {x : Rat} {M : Rat} (h : x.abs ≤ M) (hM : M ≤ 4294967296) : x.abs ≤ 1267650600228229401496703205376 := Rat.le_trans (Rat.le_trans h hM) (by decide +kernel)
theorem sub_abs {x y M : Rat} (hx : x.abs ≤ M) (hy : y.abs ≤ M) : (x - y).abs ≤ 2 * M := by
  have := abs_le hx; have := abs_le hy
  exact abs_of (by grind) (by grind)
theorem half_M {A : Rat} (h : 0 ≤ A) : A / 8589934592 ≤ A / 2147483648 := by grind

/-- Equal values: the average is near to the value, the slope is 0. -/
theorem equal_near {x : Int} (hx : (Lit.int .i32 x).wf = true) {n p : Nat} (h1 : 1 ≤ n) (h2 : n ≤ 2048) (h : Ok (n - 1) p) :
    floatBits .sub .f64 (avg (fun _ => ofI x) (n - 1) p) (ofI x) = some (fsub (avg (fun _ => ofI x) (n - 1) p) (ofI x)) ∧ floatBits .mul .f64 tinyW (absb (ofI x)) = some (fmul tinyW (absb (ofI x))) ∧ nearB (avg (fun _ => ofI x) (n - 1) p) (ofI x) (absb (ofI x)) = true := by
  obtain ⟨a, b, c⟩ := ofI32 hx
  have hA := fv_abs a
  by_cases h0 : x = 0
  · have hz : fv (ofI x) = 0 := by rw [b, h0]; rfl
    obtain ⟨d, e⟩ := avg_zero (f := fun _ => ofI x) (t := term (fun _ => ofI x) (n - 1) p) h (fun _ _ => ⟨a, hz⟩) (fun k hk => term_eq _ _ p k hk)
    have e' : fv (avg (fun _ => ofI x) (n - 1) p) = 0 := e
    refine near_ok d a (isFin_abs a) hA (.inl (by rw [hz, Rat.abs_zero])) (abs_big c (by decide +kernel)) ?_ ?_ ?_
    · show (fv (avg (fun _ => ofI x) (n - 1) p) - _).abs ≤ _
      rw [e', hz]; decide +kernel
    · show fv (avg (fun _ => ofI x) (n - 1) p) - _ ≤ _
      rw [e', hz]; decide +kernel
    · show _ - fv (avg (fun _ => ofI x) (n - 1) p) ≤ _
      rw [e', hz]; decide +kernel
  · have h1' : 1 ≤ (fv (ofI x)).abs := by
      rw [b]
      rcases Int.lt_or_gt_of_ne h0 with h3 | h3
      · have h4 : ((x : Int) : Rat) ≤ ((-1 : Int) : Rat) := Rat.intCast_le_intCast.2 (by omega)
        have e : ((-1 : Int) : Rat) = -1 := rfl
        have := (abs_le (Rat.le_refl (a := ((x : Int) : Rat).abs))).2
        rw [e] at h4
        grind
      · have h4 : ((1 : Int) : Rat) ≤ ((x : Int) : Rat) := Rat.intCast_le_intCast.2 (by omega)
        have e : ((1 : Int) : Rat) = 1 := rfl
        have := (abs_le (Rat.le_refl (a := ((x : Int) : Rat).abs))).1
        rw [e] at h4
        grind
    obtain ⟨d, e1, e2⟩ := avg_close h1' (abs_big c (by decide +kernel)) (f := fun _ => ofI x) (n := n) (fun _ _ => ⟨a, Rat.le_refl⟩) h1 h2 h
    rw [ex_const] at e1 e2
    have h0' : 0 ≤ (fv (ofI x)).abs := Rat.abs_nonneg
    have hd := Rat.le_trans e1 (half_M h0')
    have he := Rat.le_trans e2 (half_M h0')
    refine near_ok d a (isFin_abs a) hA (.inr h1') (abs_big c (by decide +kernel)) (abs_of (Rat.le_trans hd ?_) (Rat.le_trans (by grind) (Rat.le_trans he ?_))) hd he
    · exact Rat.le_trans (show _ ≤ (fv (ofI x)).abs by grind) (abs_big c (by decide +kernel))
    · exact Rat.le_trans (show _ ≤ (fv (ofI x)).abs by grind) (abs_big c (by decide +kernel))

theorem equal_slope {x : Int} (hx : (Lit.int .i32 x).wf = true) {n p : Nat} (h2 : n ≤ 2048) (h : Ok (n - 1) p) : isFin (slope (fun _ => ofI x) n p) ∧ fv (slope (fun _ => ofI x) n p) = 0 := by
  obtain ⟨a, b, c⟩ := ofI32 hx
  unfold slope
  split
  · exact ⟨isFin_zero, fv_zero⟩
  · have hd : ∀ k, isFin (diff (fun _ => ofI x) k) ∧ fv (diff (fun _ => ofI x) k) = 0 := by
      intro k
      have e : fv (ofI x) - fv (ofI x) = 0 := by grind
      obtain ⟨_, s2, s3⟩ := fsub_ok a a (zb e)
      rw [e] at s3
      exact ⟨s2, s3.exact (.inl Rep.zero)⟩
    obtain ⟨d, e⟩ := avg_zero (f := diff (fun _ => ofI x)) (t := term (diff (fun _ => ofI x)) (n - 1) p) h (fun k _ => hd k) (fun k hk => term_eq _ _ p k hk)
    have e' : fv (avg (diff (fun _ => ofI x)) (n - 1) p) = 0 := e
    obtain ⟨m1, m2⟩ := ofN_ok n (by omega)
    have e0 : fv (ofI (n : Nat)) * fv (avg (diff (fun _ => ofI x)) (n - 1) p) = 0 := by rw [e']; grind
    obtain ⟨_, s2, s3⟩ := fmul_ok m1 d (zb e0)
    rw [show psum (term (diff (fun _ => ofI x)) (n - 1) p) (n - 1 + 1) = avg (diff (fun _ => ofI x)) (n - 1) p from rfl, e0] at s3
    exact ⟨s2, s3.exact (.inl Rep.zero)⟩

/-- Slope of any valid list. -/
theorem Slope_any (A : Option Addr) (n c p : Nat) (f : Nat → Nat) (w : World) (h : ListIn w A n f) (hp : p < 2 ^ 64) (hl : listB n f = true) (hpr : prob p = true) :
    Calls Try.prog 33 #[.slice A n c, .float .f64 p] w fun e w' => e = .returned (.tuple #[.float .f64 (slope f (n - 1) (absb p)), .int .i64 0]) ∧ Below w.heap.size w w' := by
  match n, h, hl, (listB_parts hl).1 with
  | 1, h, hl, _ => exact Slope_one A c p f w h hl hpr
  | m + 2, h, hl, _ => exact Slope_ok A m c p f w h hp hl hpr
end Go.Proofs.Ytcgoicijbmhmpaa
