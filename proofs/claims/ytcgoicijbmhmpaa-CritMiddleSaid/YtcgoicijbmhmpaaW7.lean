/-
  The averages: program and reference, in good and bad cases.
-/
import Derived.Test.YtcgoicijbmhmpaaW6
namespace Go.Proofs.Ytcgoicijbmhmpaa
open Go.RowKit Go.Fl Go.Deep

theorem drewN_drew (w : World) (q : Nat) : (w.drewN q).drew = w.drewN (q + 1) := rfl

set_option maxHeartbeats 1000000 in
/-- seepageref31.sum. -/
theorem refsum_any (A B : Option Addr) (n c d : Nat) (f v t : Nat → Nat) (w : World) (hA : RowF w A n f) (hB : RowF w B n v) (hn : n ≤ 16385)
    (ht : ∀ k, k < n → floatBits .mul .f64 (f k) (v k) = some (t k)) (ha : ∀ k, k < n → floatBits .add .f64 (psum t k) (t k) = some (psum t (k + 1))) :
    Calls Try.prog 67 #[.slice A n c, .slice B n d] w fun e w' => e = .returned (.float .f64 (psum t n)) ∧ ∃ q, w' = w.drewN q := by
  have HT := Lib.hid ht
  have HS := Lib.hid ha
  have HA := Lib.hid hA
  have HB := Lib.hid hB
  clear ht ha hA hB
  go_enter Try.func67, Try.ntmps67
  go_wp2
  go_loopw [5, 6] (fun s i wr => ∃ k q : Nat, k ≤ n ∧ i = .int .i64 k ∧ s = .float .f64 (psum t k) ∧ wr = w.drewN q) (fun _ i _ => n - (intOf i).toNat)
  case atStart => exact ⟨0, 0, Nat.zero_le _, rfl, rfl, rfl⟩
  case round =>
    obtain ⟨k, q, hk, rfl, rfl, rfl⟩ := hrel
    by_cases hkn : k < n
    · obtain ⟨b, off, rfl, _, hc⟩ := HA.out (by omega)
      obtain ⟨b2, off2, rfl, _, hc2⟩ := HB.out (by omega)
      have c1 := hc k hkn
      have c2 := hc2 k hkn
      have m1 := fun ty W => run_float_arith (P := Try.prog) W .mul ty .f64 _ _ _ (HT.out k hkn)
      have m2 := fun ty W => run_float_arith (P := Try.prog) W .add ty .f64 _ _ _ (HS.out k hkn)
      have l3 : (k : Int) < n := by omega
      clear hc hc2
      go_wp2
      go_region
      go_wp2
      go_roundw
      case rel => exact ⟨k + 1, q + 1, by omega, by go_num, rfl, rfl⟩
      case measure => simp [intOf]; omega
    · have hkk : k = n := by omega
      have l3 : ¬ (k : Int) < n := by omega
      subst hkk
      go_wp2
      go_ret
      exact ⟨rfl, q, rfl⟩

set_option maxHeartbeats 1000000 in
/-- canon.terms. -/
theorem terms_any (x v : Value) (w : World) (a : Option Addr) (hx : x = .func (.func 87) #[] #[.pointer a] ∨ x = .func (.func 68) #[] #[.pointer a]) (bv n : Nat) (hv : v = .slice (some ⟨bv, 0, none⟩) n n) :
    Calls Try.prog 70 #[x, v] w fun e w' => e = .returned (.func (.func 88) #[] #[.pointer (some ⟨w.heap.size + 1, 0, none⟩), .pointer (some ⟨w.heap.size, 0, none⟩)]) ∧ (w.alloc (.cells #[x] 64)).alloc (.cells #[v] 24) = w' := by
  rcases hx with rfl | rfl <;> subst hv
  · go_enter Try.func70, Try.ntmps70
    go_wp2
    go_ret
    exact ⟨rfl, rfl⟩
  · go_enter Try.func70, Try.ntmps70
    go_wp2
    go_ret
    exact ⟨rfl, rfl⟩

/-- The products of an average. -/
def term (f : Nat → Nat) (m p k : Nat) : Nat := if k ≤ m then fmul (f k) (wt m p k) else 0
def avg (f : Nat → Nat) (m p : Nat) : Nat := psum (term f m p) (m + 1)

theorem term_ok {f : Nat → Nat} {m p : Nat} (h : Ok m p) {B : Rat} (_hB : 1 ≤ B) (hB2 : B ≤ 649037107316853453566312041152512) (hf : ∀ k, k ≤ m → isFin (f k) ∧ (fv (f k)).abs ≤ B) :
    (∀ k, k ≤ m → floatBits .mul .f64 (f k) (wt m p k) = some (term f m p k)) ∧ ∀ k, isFin (term f m p k) ∧ (fv (term f m p k)).abs ≤ 2 * B := by
  have one : ∀ k, k ≤ m → floatBits .mul .f64 (f k) (wt m p k) = some (term f m p k) ∧ isFin (term f m p k) ∧ (fv (term f m p k)).abs ≤ 2 * B := by
    intro k hk
    obtain ⟨f1, f2⟩ := hf k hk
    obtain ⟨_, w1, w2, w3, _⟩ := wt_ok h hk
    have e : term f m p k = fmul (f k) (wt m p k) := if_pos hk
    rw [e]
    have ha : (fv (f k) * fv (wt m p k)).abs ≤ B := by
      have l1 := le_abs (fv (f k)); have l2 := neg_le_abs (fv (f k))
      have h0 := Rat.abs_nonneg (x := fv (f k))
      have m1 : fv (f k) * fv (wt m p k) ≤ (fv (f k)).abs * fv (wt m p k) := Rat.mul_le_mul_of_nonneg_right l1 w2
      have m2 : -fv (f k) * fv (wt m p k) ≤ (fv (f k)).abs * fv (wt m p k) := Rat.mul_le_mul_of_nonneg_right l2 w2
      have m3 : (fv (f k)).abs * fv (wt m p k) ≤ (fv (f k)).abs * 1 := Rat.mul_le_mul_of_nonneg_left w3 h0
      rw [Rat.neg_mul] at m2
      exact abs_le_of (by grind) (by grind)
    obtain ⟨a1, a2, a3⟩ := fmul_ok f1 w1 (by have := big_ge; refine Rat.le_trans (Rat.le_trans ha ?_) (Rat.le_trans this (two_mono (by omega))); grind)
    refine ⟨a1, a2, ?_⟩
    have e1 := a3.er
    have e2 := a3.er'
    have h3 := eps_100 (Rat.abs_nonneg (x := fv (f k) * fv (wt m p k)))
    have h4 := eta_eps
    have h5 := eps_val
    have l1 := le_abs (fv (f k) * fv (wt m p k)); have l2 := neg_le_abs (fv (f k) * fv (wt m p k))
    have hm : (fv (f k) * fv (wt m p k)).abs * eps = eps * (fv (f k) * fv (wt m p k)).abs := Rat.mul_comm _ _
    rw [hm] at e1 e2
    generalize eps * (fv (f k) * fv (wt m p k)).abs = ex at *
    generalize (fv (f k) * fv (wt m p k)).abs = ab at *
    generalize fv (f k) * fv (wt m p k) = sx at *
    exact abs_le_of (by grind) (by grind)
  refine ⟨fun k hk => (one k hk).1, fun k => ?_⟩
  by_cases hk : k ≤ m
  · exact (one k hk).2
  · have e : term f m p k = 0 := if_neg hk
    rw [e, fv_zero, Rat.abs_zero]
    exact ⟨isFin_zero, by grind⟩

theorem psum_bounded {t : Nat → Nat} {B : Rat} (hB : 1 ≤ B) (hB2 : B ≤ 1298074214633706907132624082305024) (ht : ∀ k, isFin (t k) ∧ (fv (t k)).abs ≤ B) :
    ∀ k, k ≤ 16385 → isFin (psum t k) ∧ (fv (psum t k)).abs ≤ 2 * (k : Rat) * B := by
  intro k
  induction k with
  | zero => intro _; exact ⟨isFin_zero, by show (fv 0).abs ≤ _; rw [fv_zero, Rat.abs_zero]; simp⟩
  | succ k ih =>
    intro hk
    obtain ⟨h1, h2⟩ := ih (by omega)
    obtain ⟨_, a2, a3⟩ := sum_step h1 (ht k).1 h2 (ht k).2 hB hB2 (by omega)
    exact ⟨a2, a3⟩
theorem psum_adds {t : Nat → Nat} {B : Rat} (hB : 1 ≤ B) (hB2 : B ≤ 1298074214633706907132624082305024) (ht : ∀ k, isFin (t k) ∧ (fv (t k)).abs ≤ B) {k : Nat} (hk : k < 16385) :
    floatBits .add .f64 (psum t k) (t k) = some (psum t (k + 1)) := by
  obtain ⟨h1, h2⟩ := psum_bounded hB hB2 ht k (by omega)
  exact (sum_step h1 (ht k).1 h2 (ht k).2 hB hB2 (by omega)).1

set_option maxHeartbeats 2000000 in
/-- canon.average: of a list of values and a probability. -/
theorem average_any (b off m c p : Nat) (f : Nat → Nat) (w : World) (hbw : b < w.heap.size) (hc : FloatsAt w b off (m + 1) f) (hm : m ≤ 16384) (hp : p < 2 ^ 64) (hpr : prob p = true)
    (hf : ∀ k, k ≤ m → isFin (f k) ∧ (fv (f k)).abs ≤ 1267650600228229401496703205376) :
    Calls Try.prog 65 #[.slice (some ⟨b, off, none⟩) (m + 1) c, .float .f64 p] w fun e w' => e = .returned (.float .f64 (avg f m (absb p))) ∧ Below w.heap.size w w' := by
  have ok := ok_abs hm hp hpr
  obtain ⟨t1, t2⟩ := term_ok ok (B := 1267650600228229401496703205376) (by grind) (by grind) hf
  have CW := Lib.hid (fun W => weights_c m p W hm hp hpr)
  have CT := Lib.hid (fun W => terms_any (.func (.func 87) #[] #[.pointer (some ⟨w.heap.size, 0, none⟩)]) (.slice (some ⟨w.heap.size + 1, 0, none⟩) (m + 1) (m + 1)) W (some ⟨w.heap.size, 0, none⟩) (.inl rfl) (w.heap.size + 1) (m + 1) rfl)
  have HC := Lib.hid hc
  have HF := Lib.hid hf
  have T1 := Lib.hid t1
  have T2 := Lib.hid t2
  have OK := Lib.hid ok
  have HP := Lib.hid hpr
  clear hc hf t1 t2 ok hpr
  go_enter Try.func65, Try.ntmps65
  go_wp2_with (first | (go_at_call 61; refine (CW.out _).mono ?_; rintro e w1 ⟨rfl, hrow, hbel⟩) | (go_at_call 70; refine (CT.out _).mono ?_; rintro e w2 ⟨rfl, rfl⟩))
  have hsz : w.heap.size + 1 ≤ w1.heap.size := by have := hbel.size; simpa using this
  have hb0 : Below w.heap.size w w1 := ((Below.refl _ w).alloc (Nat.le_refl _) _).trans (hbel.mono (by simp))
  rw [World.size_alloc] at hrow hbel
  have k1 : ∀ q : Addr, q.block < w1.heap.size → ((w1.alloc (.cells #[Value.func (.func 87) #[] #[.pointer (some ⟨w.heap.size, 0, none⟩)]] 64)).alloc (.cells #[Value.slice (some ⟨w.heap.size + 1, 0, none⟩) (m + 1) (m + 1)] 24)).cell? q = w1.cell? q :=
    fun q hq => (World.cell?_alloc_lt _ _ q (by simp; omega)).trans (World.cell?_alloc_lt _ _ q hq)
  have S := (callsIn_wide (n := 4)).1 (sum_in Fence.wide 4 trivial trivial trivial rfl (by omega) (w1.heap.size + 1) w1.heap.size w.heap.size (w.heap.size + 1) b off (m + 1) c f (wt m (absb p)) (term f m (absb p)) (by omega) (2 * 1267650600228229401496703205376) (by grind) (by grind)
    ((w1.alloc (.cells #[Value.func (.func 87) #[] #[.pointer (some ⟨w.heap.size, 0, none⟩)]] 64)).alloc (.cells #[Value.slice (some ⟨w.heap.size + 1, 0, none⟩) (m + 1) (m + 1)] 24))
    (by simp) (by simp; omega) (by simp; omega) (by simp; omega) (by simp; omega) (fun k hk => T1.out k (by omega)) T2.out
    (by simp [go_sem]) (by simp [go_sem]) ((k1 _ (by show w.heap.size < _; omega)).trans ((hbel.cell (p := ⟨w.heap.size, 0, none⟩) (by simp)).trans (by simp [go_sem])))
    (fun j hj => (k1 _ (by show w.heap.size + 1 < _; exact hrow.lt)).trans (hrow.cell hj)) (fun j hj => (k1 _ (by show b < _; omega)).trans ((hb0.cell (p := ⟨b, off + j, none⟩) hbw).trans (HC.out j hj))))
  refine S.mono ?_
  rintro e w' ⟨rfl, hb3⟩
  go_wp2
  go_ret
  exact ⟨rfl, (hb0.trans (((Below.refl w.heap.size w1).alloc (by omega) _).alloc (by simp; omega) _)).trans (hb3.mono (by simp; omega))⟩

theorem ret2 {a b : Value} {a' b' : Value} (h : a = a') (k : b = b') : Ending.returned (.tuple #[a, b]) = .returned (.tuple #[a', b']) := by rw [h, k]

/-- What comes in as a list of values: elements that are words, read where they lie. -/
structure ListIn (w : World) (A : Option Addr) (n : Nat) (f : Nat → Nat) : Prop where
  row : RowF w A n f
  wf : ∀ j, j < n → f j < 2 ^ 64
  len : n ≤ maxLen

theorem vals_fin {n : Nat} {f : Nat → Nat} (hw : ∀ j, j < n → f j < 2 ^ 64) (h : listB n f = true) : ∀ k, k < n → isFin (f k) ∧ (fv (f k)).abs ≤ 1267650600228229401496703205376 :=
  fun k hk => inB_fin (hw k hk) ((listB_parts h).2.2 k hk)

set_option maxHeartbeats 1000000 in
/-- canon.Average, where it gives a number. -/
theorem Average_ok (A : Option Addr) (n c p : Nat) (f : Nat → Nat) (w : World) (h : ListIn w A n f) (hp : p < 2 ^ 64) (hl : listB n f = true) (hpr : prob p = true) :
    Calls Try.prog 31 #[.slice A n c, .float .f64 p] w fun e w' => e = .returned (.tuple #[.float .f64 (avg f (n - 1) (absb p)), .int .i64 0]) ∧ Below w.heap.size w w' := by
  obtain ⟨h1, h2, _⟩ := listB_parts hl
  obtain ⟨m, rfl⟩ : ∃ m, n = m + 1 := ⟨n - 1, by omega⟩
  obtain ⟨b, off, rfl, hb, hc⟩ := h.row (by omega)
  have CL := Lib.hid (fun W hr => isList_any (some ⟨b, off, none⟩) (m + 1) c f W hr h.wf h.len)
  rw [hl] at CL
  have CP := Lib.hid (fun W => isProb_any p W)
  rw [hpr] at CP
  have CA := Lib.hid (average_any b off m c p f w hb hc (by omega) hp hpr (fun k hk => vals_fin h.wf hl k (by omega)))
  have HR := Lib.hid h.row
  rw [Nat.add_sub_cancel]
  clear hc h hl hpr
  go_enter Try.func31, Try.ntmps31
  go_wp2_with (first | (go_at_call 64; refine (CL.out _ HR.out).mono ?_; rintro e w' ⟨rfl, rfl⟩) | (go_at_call 60; refine (CP.out _).mono ?_; rintro e w' ⟨rfl, rfl⟩) | (go_at_call 65; refine CA.out.mono ?_; rintro e w' ⟨rfl, hbel⟩))
  go_ret2
  exact ⟨rfl, hbel⟩
set_option maxHeartbeats 1000000 in
/-- .. where it rejects. -/
theorem Average_bad (A : Option Addr) (n c p : Nat) (f : Nat → Nat) (w : World) (h : ListIn w A n f) (hbad : (listB n f && prob p) = false) :
    Calls Try.prog 31 #[.slice A n c, .float .f64 p] w fun e w' => e = .returned (.tuple #[.float .f64 0, .int .i64 2]) ∧ w = w' := by
  have CL := Lib.hid (isList_any A n c f w h.row h.wf h.len)
  have CP := Lib.hid (fun W => isProb_any p W)
  clear h
  cases hl : listB n f with
  | false =>
    rw [hl] at CL
    clear hbad hl
    go_enter Try.func31, Try.ntmps31
    go_wp2_with (first | (go_at_call 64; refine CL.out.mono ?_; rintro e w' ⟨rfl, rfl⟩) | (go_at_call 60; refine (CP.out _).mono ?_; rintro e w' ⟨rfl, rfl⟩))
    go_ret2
    exact ⟨rfl, rfl⟩
  | true =>
    rw [hl, Bool.true_and] at hbad
    rw [hl] at CL
    rw [hbad] at CP
    clear hbad hl
    go_enter Try.func31, Try.ntmps31
    go_wp2_with (first | (go_at_call 64; refine CL.out.mono ?_; rintro e w' ⟨rfl, rfl⟩) | (go_at_call 60; refine (CP.out _).mono ?_; rintro e w' ⟨rfl, rfl⟩))
    go_ret2
    exact ⟨rfl, rfl⟩

set_option maxHeartbeats 2000000 in
/-- seepageref31.Average, where it gives a number. -/
theorem refAverage_ok (A : Option Addr) (n c p : Nat) (f : Nat → Nat) (w : World) (h : ListIn w A n f) (hp : p < 2 ^ 64) (hl : listB n f = true) (hpr : prob p = true) :
    Calls Try.prog 32 #[.slice A n c, .float .f64 p] w fun e w' => e = .returned (.tuple #[.float .f64 (avg f (n - 1) (absb p)), .int .i64 0]) ∧ Below w.heap.size w w' := by
  obtain ⟨h1, h2, _⟩ := listB_parts hl
  obtain ⟨m, rfl⟩ : ∃ m, n = m + 1 := ⟨n - 1, by omega⟩
  obtain ⟨b, off, rfl, hb, hc⟩ := h.row (by omega)
  have ok := ok_abs (m := m) (by omega) hp hpr
  obtain ⟨t1, t2⟩ := term_ok ok (B := 1267650600228229401496703205376) (by grind) (by grind) (fun k hk => vals_fin h.wf hl k (by omega))
  have CL := Lib.hid (list_any (some ⟨b, off, none⟩) (m + 1) c f w h.row h.wf h.len)
  rw [hl] at CL
  have CP := Lib.hid (fun W => isProb_any2 p W)
  rw [hpr] at CP
  have CA := Lib.hid (fun W => abs_any p hp W)
  have CW := Lib.hid (refw_c m p w (by omega) hp hpr)
  have CS := Lib.hid (fun (W : World) hA hB => refsum_any (some ⟨b, off, none⟩) (some ⟨w.heap.size, 0, none⟩) (m + 1) c (m + 1) f (wt m (absb p)) (term f m (absb p)) W hA hB (by omega) (fun k hk => t1 k (by omega)) (fun k hk => psum_adds (by grind) (by grind) t2 (by omega)))
  have HC := Lib.hid hc
  rw [Nat.add_sub_cancel]
  clear hc h hl hpr t1 t2 ok
  go_enter Try.func32, Try.ntmps32
  go_wp2_with (first | (go_at_call 66; refine CL.out.mono ?_; rintro e w' ⟨rfl, rfl⟩) | (go_at_call 62; refine (CP.out _).mono ?_; rintro e w' ⟨rfl, rfl⟩) | (go_at_call 42; refine (CA.out _).mono ?_; rintro e w' ⟨rfl, rfl⟩) | (go_at_call 63; refine CW.out.mono ?_; rintro e w1 ⟨rfl, hrow, hbel⟩))
  refine (CS.out w1 (fun _ => ⟨b, off, rfl, by have := hbel.size; omega, fun j hj => (hbel.cell (p := ⟨b, off + j, none⟩) hb).trans (HC.out j hj)⟩) (fun _ => ⟨w.heap.size, 0, rfl, hrow.lt, fun j hj => by rw [Nat.zero_add]; exact hrow.cell hj⟩)).mono ?_
  rintro e w' ⟨rfl, q, rfl⟩
  go_wp2
  go_ret2
  exact ⟨rfl, ⟨hbel.os, hbel.tape, hbel.output, hbel.size, hbel.block⟩⟩
set_option maxHeartbeats 1000000 in
/-- .. where it rejects. -/
theorem refAverage_bad (A : Option Addr) (n c p : Nat) (f : Nat → Nat) (w : World) (h : ListIn w A n f) (hbad : (listB n f && prob p) = false) :
    Calls Try.prog 32 #[.slice A n c, .float .f64 p] w fun e w' => e = .returned (.tuple #[.float .f64 0, .int .i64 2]) ∧ w = w' := by
  have CL := Lib.hid (list_any A n c f w h.row h.wf h.len)
  have CP := Lib.hid (fun W => isProb_any2 p W)
  clear h
  cases hl : listB n f with
  | false =>
    rw [hl] at CL
    clear hbad hl
    go_enter Try.func32, Try.ntmps32
    go_wp2_with (first | (go_at_call 66; refine CL.out.mono ?_; rintro e w' ⟨rfl, rfl⟩) | (go_at_call 62; refine (CP.out _).mono ?_; rintro e w' ⟨rfl, rfl⟩))
    go_ret2
    exact ⟨rfl, rfl⟩
  | true =>
    rw [hl, Bool.true_and] at hbad
    rw [hl] at CL
    rw [hbad] at CP
    clear hbad hl
    go_enter Try.func32, Try.ntmps32
    go_wp2_with (first | (go_at_call 66; refine CL.out.mono ?_; rintro e w' ⟨rfl, rfl⟩) | (go_at_call 62; refine (CP.out _).mono ?_; rintro e w' ⟨rfl, rfl⟩))
    go_ret2
    exact ⟨rfl, rfl⟩
end Go.Proofs.Ytcgoicijbmhmpaa
