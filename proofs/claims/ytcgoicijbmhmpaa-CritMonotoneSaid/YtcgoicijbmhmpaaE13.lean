/-
  Where an average reaches a target: the program's walk.
-/
import Derived.Test.YtcgoicijbmhmpaaE12
namespace Go.Proofs.Ytcgoicijbmhmpaa
open Go.RowKit Go.Fl Go.Deep

/-- The average of m + 1 numbers at a probability. -/
def avf (f : Nat → Nat) (m p : Nat) : Nat := avg f m (absb p)
theorem new1 (W : World) (x : Nat) : RowF (W.alloc (.cells #[.float .f64 x] 22)) (some ⟨W.heap.size, 0, none⟩) 1 (fun _ => x) :=
  fun _ => ⟨W.heap.size, 0, rfl, by simp, fun j hj => by
    rw [Nat.zero_add, World.cell?_alloc_at _ _ _ _ rfl]
    match j, hj with
    | 0, _ => rfl⟩
theorem allB_one (x : Nat) : allB 1 (fun _ => x) = inB x := by
  unfold allB
  show ([0] : List Nat).all _ = _
  simp
theorem in_one (x : Nat) (hx : x < 2 ^ 64) (W : World) : Calls Try.prog 83 #[.slice (some ⟨W.heap.size, 0, none⟩) 1 1] (W.alloc (.cells #[.float .f64 x] 22)) fun e w' => e = .returned (.bool (inB x)) ∧ (W.alloc (.cells #[.float .f64 x] 22)) = w' := by
  have h := inBounds_any (some ⟨W.heap.size, 0, none⟩) 1 1 (fun _ => x) (W.alloc (.cells #[.float .f64 x] 22)) (new1 W x) (fun _ _ => hx) (by omega)
  rw [allB_one] at h
  exact h
theorem mid_prob {lo hi : Nat} (h : In01 lo hi) : prob (mid lo hi) = true ∧ mid lo hi < 2 ^ 64 := by
  have m := mid_ok h
  refine ⟨?_, m.fin.1⟩
  unfold prob
  rw [Bool.and_eq_true]
  exact ⟨(fge_iff m.fin isFin_zero).2 (by rw [fv_zero]; exact Rat.le_trans h.pos m.ge), (fle_iff m.fin isFin_one).2 (by rw [fv_one]; exact Rat.le_trans m.le h.one)⟩
theorem cavf_any (A : Option Addr) (m c p : Nat) (f : Nat → Nat) (w : World) (h : ListIn w A (m + 1) f) (hp : p < 2 ^ 64) (hl : listB (m + 1) f = true) (hpr : prob p = true) :
    Calls Try.prog 76 #[.slice A ((m + 1 : Nat)) c, .float .f64 p] w fun e w' => e = .returned (.float .f64 (avf f m p)) ∧ Below w.heap.size w w' :=
  cavg_any A (m + 1) c p f w h hp hl hpr
theorem ravf_any (A : Option Addr) (m c p : Nat) (f : Nat → Nat) (w : World) (h : ListIn w A (m + 1) f) (hp : p < 2 ^ 64) (hl : listB (m + 1) f = true) (hpr : prob p = true) :
    Calls Try.prog 79 #[.slice A ((m + 1 : Nat)) c, .float .f64 p] w fun e w' => e = .returned (.float .f64 (avf f m p)) ∧ Below w.heap.size w w' :=
  ravg_any A (m + 1) c p f w h hp hl hpr

theorem dual_lt {x y : Nat} (h : flt x y = true) : (FloatKind.f64.format.order x y == some Ordering.lt) = true := h
/-- What a search answers: the first fall, outside, or the end of the bisection. -/
structure Answer (f : Nat → Nat) (m t j x : Nat) (z : Int) : Prop where
  fall : j < m → x = 0 ∧ z = 8
  out : j = m → (flt t (f 0) || fgt t (f m)) = true → x = 0 ∧ z = 5
  ok : j = m → (flt t (f 0) || fgt t (f m)) = false → x = (blo (avf f m) t 60).2 ∧ z = 0

attribute [local irreducible] blo mid avf

set_option maxRecDepth 100000 in
set_option maxHeartbeats 4000000 in
theorem Solve_bad (A : Option Addr) (n c t : Nat) (f : Nat → Nat) (w : World) (h : ListIn w A n f) (ht : t < 2 ^ 64) (hbad : (listB n f && inB t) = false) :
    Calls Try.prog 58 #[.slice A n c, .float .f64 t] w (Says 0 2 w) := by
  have CL := Lib.hid (cisList_any A n c f w h)
  have CI := Lib.hid (fun W => in_one t ht W)
  cases hl : listB n f with
  | false =>
    rw [hl] at CL
    clear h hbad hl
    go_enter Try.func58, Try.ntmps58
    go_wp2_with (go_at_call 73; refine CL.out.mono ?_; rintro e w' ⟨rfl, rfl⟩)
    go_ret2
    exact ⟨rfl, Below.refl _ _⟩
  | true =>
    rw [hl, Bool.true_and] at hbad
    rw [hl] at CL
    rw [hbad] at CI
    clear h hbad hl
    go_enter Try.func58, Try.ntmps58
    go_wp2_with (first | (go_at_call 73; refine CL.out.mono ?_; rintro e w' ⟨rfl, rfl⟩) | (go_at_call 83; refine (CI.out _).mono ?_; rintro e w' ⟨rfl, rfl⟩))
    go_ret2
    exact ⟨rfl, (Below.refl _ w).alloc (Nat.le_refl _) _⟩

set_option maxRecDepth 100000 in
set_option maxHeartbeats 4000000 in
theorem Solve_any (A : Option Addr) (m c t j x : Nat) (z : Int) (f : Nat → Nat) (w : World) (h : ListIn w A (m + 1) f) (ht : t < 2 ^ 64) (hl : listB (m + 1) f = true) (hi : inB t = true)
    (hj : First (fun i => flt (f (i + 1)) (f i) = false) m j) (hx : Answer f m t j x z) :
    Calls Try.prog 58 #[.slice A ((m + 1 : Nat)) c, .float .f64 t] w (Says x z w) := by
  have CL := Lib.hid (cisList_any A (m + 1) c f w h)
  have CI := Lib.hid (fun W => in_one t ht W)
  rw [hl] at CL
  rw [hi] at CI
  obtain ⟨b, off, rfl, hb, hc⟩ := h.row (by omega)
  have HA := Lib.hid (h.below ((Below.refl _ w).alloc (Nat.le_refl _) (.cells #[.float .f64 t] 22)))
  have hm : m ≤ 16384 := by have := (listB_parts hl).2.1; omega
  have CA := Lib.hid (fun k W (hW : ListIn W (some ⟨b, off, none⟩) (m + 1) f) => cavf_any (some ⟨b, off, none⟩) m c (mid (blo (avf f m) t k).1 (blo (avf f m) t k).2) f W hW (mid_prob (blo_in (avf f m) t k)).2 hl (mid_prob (blo_in (avf f m) t k)).1)
  have HM := Lib.hid (fun k => mid_ok (blo_in (avf f m) t k))
  have HT := Lib.hid (fun k (hk : flt (avf f m (mid (blo (avf f m) t k).1 (blo (avf f m) t k).2)) t = true) => blo_lt hk)
  have HE := Lib.hid (fun k (hk : flt (avf f m (mid (blo (avf f m) t k).1 (blo (avf f m) t k).2)) t = false) => blo_ge hk)
  have HC := Lib.hid (fun W (hW : Below w.heap.size (w.alloc (.cells #[.float .f64 t] 22)) W) k (hk : k < m + 1) => show W.cell? ⟨b, off + k, none⟩ = some (.float .f64 (f k)) from (hW.cell (p := ⟨b, off + k, none⟩) hb).trans ((World.cell?_alloc_lt _ _ _ hb).trans (hc k hk)))
  have HB0 := Lib.hid ((Below.refl _ w).alloc (Nat.le_refl _) (.cells #[.float .f64 t] 22))
  have HJ := Lib.hid hj
  have HX := Lib.hid hx
  clear h hc hl hi hj hx
  go_enter Try.func58, Try.ntmps58
  go_wp2_with (first | (go_at_call 73; refine CL.out.mono ?_; rintro e w' ⟨rfl, rfl⟩) | (go_at_call 83; refine (CI.out _).mono ?_; rintro e w' ⟨rfl, rfl⟩))
  generalize hw0 : w.alloc (.cells #[.float .f64 t] 22) = w0 at *
  clear hw0
  go_loopw [6] (fun i wr => ∃ k : Nat, k ≤ m ∧ k ≤ j ∧ i = .int .i64 ((k : Int) + 1) ∧ Below w0.heap.size w0 wr) (fun i _ => m + 2 - (intOf i).toNat)
  case atStart => exact ⟨0, Nat.zero_le _, Nat.zero_le _, rfl, Below.refl _ _⟩
  case round =>
    obtain ⟨k, hk, hkj, rfl, hbel⟩ := hrel
    have HB := Lib.hid hbel
    clear hbel
    by_cases hkm : k < m
    · have c1 : wr.cell? ⟨b, off + k, none⟩ = some (.float .f64 (f k)) := HC.out wr (HB.out.mono HB0.out.size) k (by omega)
      have c2 : wr.cell? ⟨b, off + (k + 1), none⟩ = some (.float .f64 (f (k + 1))) := HC.out wr (HB.out.mono HB0.out.size) (k + 1) (by omega)
      have l1 : (k : Int) < (m : Int) := by omega
      have l2 : (k : Int) + 1 < (m : Int) + 1 := by omega
      have l4 : (k : Int) < (m : Int) + 1 := by omega
      have q1 : (0 : Int) ≤ (k : Int) + 1 := by omega
      have q2 : ((k : Int) + 1).toNat = k + 1 := by omega
      rcases Nat.lt_or_ge k j with hlt | hge
      · have o1 : (FloatKind.f64.format.order (f (k + 1)) (f k) == some Ordering.lt) = false := HJ.out.2.1 k hlt
        have HL := Lib.hid hlt
        clear hlt
        go_wp2
        go_quiet (fail)
        go_wp2
        go_roundw
        case rel => exact ⟨k + 1, by omega, HL.out, by go_num, HB.out.trans (Drawn.below ⟨nq, rfl⟩ _)⟩
        case measure => simp [intOf]; omega
      · obtain rfl : k = j := by omega
        have o1 : (FloatKind.f64.format.order (f (k + 1)) (f k) == some Ordering.lt) = true := by
          have h3 := HJ.out.2.2 hkm
          cases h4 : flt (f (k + 1)) (f k) with
          | true => exact h4
          | false => exact absurd h4 h3
        obtain ⟨rfl, rfl⟩ := HX.out.fall hkm
        clear hge
        go_wp2
        go_quiet (fail)
        go_wp2
        go_ret2
        exact ⟨rfl, HB0.out.trans ((HB.out.trans (Drawn.below ⟨nq, rfl⟩ _)).mono HB0.out.size)⟩
    · obtain rfl : k = m := by omega
      have hjm : j = k := by have := HJ.out.1; omega
      subst hjm
      have c1 : wr.cell? ⟨b, off + 0, none⟩ = some (.float .f64 (f 0)) := HC.out wr (HB.out.mono HB0.out.size) 0 (by omega)
      have c2 : wr.cell? ⟨b, off + j, none⟩ = some (.float .f64 (f j)) := HC.out wr (HB.out.mono HB0.out.size) j (by omega)
      have c3 : wr.cell? ⟨b, off, none⟩ = some (.float .f64 (f 0)) := c1
      have l4 : (j : Int) < (j : Int) + 1 := by omega
      cases o1 : flt t (f 0) with
      | true =>
        obtain ⟨rfl, rfl⟩ := HX.out.out rfl (by rw [o1]; rfl)
        unfold flt at o1
        go_wp2
        go_ret2
        exact ⟨rfl, HB0.out.trans (HB.out.mono HB0.out.size)⟩
      | false =>
        cases o2 : fgt t (f j) with
        | true =>
          obtain ⟨rfl, rfl⟩ := HX.out.out rfl (by rw [o1, o2]; rfl)
          unfold flt at o1
          unfold fgt at o2
          go_wp2
          go_ret2
          exact ⟨rfl, HB0.out.trans (HB.out.mono HB0.out.size)⟩
        | false =>
          obtain ⟨hx1, rfl⟩ := HX.out.ok rfl (by rw [o1, o2]; rfl)
          have HX1 := Lib.hid hx1
          unfold flt at o1
          unfold fgt at o2
          clear hx1
          go_wp2
          go_loopw [7, 8, 50] (fun lo hi i wq => ∃ k : Nat, k ≤ 60 ∧ lo = .float .f64 (blo (avf f j) t k).1 ∧ hi = .float .f64 (blo (avf f j) t k).2 ∧ i = .int .i64 k ∧ Below w0.heap.size w0 wq) (fun _ _ i _ => 60 - (intOf i).toNat)
          case atStart => exact ⟨0, Nat.zero_le _, by unfold blo; rfl, by unfold blo; rfl, rfl, HB.out⟩
          case round =>
            obtain ⟨k, hk, rfl, rfl, rfl, hbel⟩ := hrel
            have HQ := Lib.hid hbel
            clear hbel c1 c2 c3 o1 o2
            by_cases hk60 : k < 60
            · have l1 : (k : Int) < 60 := by omega
              have M := HM.out k
              have m1 := fun ty W => run_float_arith (P := Try.prog) W .sub ty .f64 _ _ _ M.sub
              have m2 := fun ty W => run_float_arith (P := Try.prog) W .quo ty .f64 _ _ _ M.quo
              have m3 := fun ty W => run_float_arith (P := Try.prog) W .add ty .f64 _ _ _ M.add
              have CK := Lib.hid (CA.out k)
              cases o1 : flt (avf f j (mid (blo (avf f j) t k).1 (blo (avf f j) t k).2)) t with
              | true =>
                have HE1 := Lib.hid (HT.out k o1)
                unfold flt at o1
                clear M
                go_wp2_with (go_at_call 76; refine (CK.out _ (HA.out.below HQ.out)).mono ?_; rintro e wz ⟨rfl, hbz⟩)
                go_roundw
                case rel => exact ⟨k + 1, by omega, by rw [HE1.out], by rw [HE1.out], by go_num, HQ.out.trans (hbz.mono HQ.out.size)⟩
                case measure => simp [intOf]; omega
              | false =>
                have HE1 := Lib.hid (HE.out k o1)
                unfold flt at o1
                clear M
                go_wp2_with (go_at_call 76; refine (CK.out _ (HA.out.below HQ.out)).mono ?_; rintro e wz ⟨rfl, hbz⟩)
                go_roundw
                case rel => exact ⟨k + 1, by omega, by rw [HE1.out], by rw [HE1.out], by go_num, HQ.out.trans (hbz.mono HQ.out.size)⟩
                case measure => simp [intOf]; omega
            · obtain rfl : k = 60 := by omega
              go_wp2
              go_ret2
              exact ⟨by rw [HX1.out]; rfl, HB0.out.trans (HQ.out.mono HB0.out.size)⟩
end Go.Proofs.Ytcgoicijbmhmpaa
