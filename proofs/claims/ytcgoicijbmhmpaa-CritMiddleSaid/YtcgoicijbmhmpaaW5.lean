/-
  The sums over a sequence function: the loop bodies, the whole sums, their difference.
-/
import Derived.Test.YtcgoicijbmhmpaaW4
import Derived.RangeFuncNested
import Derived.RangeFuncBound
import Derived.RangeFuncCalls
import Derived.RangeFuncLeaves
import Derived.Shelf.Abstract
import Derived.Shelf.RegionOpen
import Derived.OwnWalkIn
import Derived.TacticsInMore
import Derived.LoopNIn
import Derived.LoopIn
import Derived.RegionTactic
import Derived.BigRegion
namespace Go.Proofs.Ytcgoicijbmhmpaa
open Go.RowKit Go.Fl Go.Deep Go.Shelf
attribute [local go_sem] Oper.semAt_some

/-- The cells from 'off' on are these floats. -/
def FloatsAt (W : World) (b off len : Nat) (f : Nat → Nat) : Prop := ∀ j, j < len → W.cell? ⟨b, off + j, none⟩ = some (.float .f64 (f j))

set_option maxHeartbeats 1000000 in
/-- The closure of Average: the k-th value. -/
theorem value_in (F : Fence) (n : Nat) (h87 : F.fn 87) (hro : F.round = none) (k Bs b off len cap : Nat) (f : Nat → Nat) (W : World) (hk : k < len) (_hlen : len ≤ 16385)
    (hBs : W.cell? ⟨Bs, 0, none⟩ = some (.slice (some ⟨b, off, none⟩) len cap)) (hc : FloatsAt W b off len f) :
    CallsIn F n Try.prog 87 #[.int .i64 k, .pointer (some ⟨Bs, 0, none⟩)] W fun e W' => e = .returned (.float .f64 (f k)) ∧ W = W' := by
  have hc1 := hc k hk
  have l1 : (k : Int) < (len : Int) := by omega
  clear hc
  refine callsIn_of_wp Try.func87 rfl h87 ?_ hro
  simp only [Try.ntmps87, List.size_toArray, List.length_cons, List.length_nil, Nat.reduceAdd, Nat.reduceSub, Array.replicate_succ, Array.replicate_zero, List.push_toArray, List.append_toArray, List.nil_append, List.cons_append]
  gi_wp2
  go_ret
  exact ⟨rfl, rfl⟩

set_option maxRecDepth 100000 in
set_option maxHeartbeats 2000000 in
/-- The iterator of terms, at the values of a list. -/
theorem terms1_in (F : Fence) (n : Nat) (h88 : F.fn 88) (h87 : F.fn 87) (hro : F.round = none) (hn : 2 ≤ n) (l Bv Bx Bs bv b off len cap n₀ : Nat) (f v t : Nat → Nat) (hlen : len ≤ 16385)
    (_hb1 : Bv < n₀) (hb2 : Bx < n₀) (hb3 : Bs < n₀) (hb4 : bv < n₀) (hb5 : b < n₀)
    (ht : ∀ k, k < len → floatBits .mul .f64 (f k) (v k) = some (t k)) (J Jx : List Nat → World → Prop)
    (hY : ∀ pre x W, J pre W → pre.length < len → YieldAt F (n - 1) Try.prog l #[.float .f64 (t x)] W fun e W' =>
      (e = .returned (.bool true) ∧ J (pre ++ [x]) W' ∧ Below n₀ W W') ∨ (e = .returned (.bool false) ∧ Jx (pre ++ [x]) W'))
    (W : World) (hBv : W.cell? ⟨Bv, 0, none⟩ = some (.slice (some ⟨bv, 0, none⟩) len len)) (hBx : W.cell? ⟨Bx, 0, none⟩ = some (.func (.func 87) #[] #[.pointer (some ⟨Bs, 0, none⟩)]))
    (hBs : W.cell? ⟨Bs, 0, none⟩ = some (.slice (some ⟨b, off, none⟩) len cap)) (hv : ∀ j, j < len → W.cell? ⟨bv, j, none⟩ = some (.float .f64 (v j))) (hc : FloatsAt W b off len f) (h0 : J [] W) :
    CallsIn F n Try.prog 88 #[.func (.yield l) #[] #[], .pointer (some ⟨Bv, 0, none⟩), .pointer (some ⟨Bx, 0, none⟩)] W fun e W' => (∃ v, e = .returned v) ∧
      ((∃ ys, ys = List.range len ∧ J ys W') ∨ (∃ pre, (∃ k, k ≤ len ∧ pre = List.range k) ∧ Jx pre W')) := by
  refine callsIn_of_wp Try.func88 rfl h88 ?_ hro
  simp only [Try.ntmps88, List.size_toArray, List.length_cons, List.length_nil, Nat.reduceAdd, Nat.reduceSub, Array.replicate_succ, Array.replicate_zero, List.push_toArray, List.append_toArray, List.nil_append, List.cons_append]
  gi_wp2
  gi_loopw [8] (fun i wr => ∃ k : Nat, k ≤ len ∧ i = .int .i64 k ∧ J (List.range k) wr ∧ Below n₀ W wr)
    (fun i _ => len - (intOf i).toNat)
  case atStart => exact ⟨0, Nat.zero_le _, rfl, h0, Below.refl _ _⟩
  case round =>
    obtain ⟨k, hk, rfl, hJs, hnx⟩ := hrel
    by_cases hlt : k < len
    · have c1 := (hnx.cell (p := ⟨bv, k, none⟩) hb4).trans (hv k hlt)
      have c2 := (hnx.cell (p := ⟨Bx, 0, none⟩) hb2).trans hBx
      have c3 := (hnx.cell (p := ⟨Bs, 0, none⟩) hb3).trans hBs
      have c4 : FloatsAt wr b off len f := fun j hj => (hnx.cell (p := ⟨b, off + j, none⟩) hb5).trans (hc j hj)
      have hm := fun ty W => run_float_arith (P := Try.prog) W .mul ty .f64 _ _ _ (ht k hlt)
      have CV := Lib.hid (value_in F (n - 1) h87 hro k Bs b off len cap f wr hlt hlen c3 c4)
      have l1 : (k : Int) < (len : Int) := by omega
      have l2 : 1 ≤ n := by omega
      have l3 : 1 ≤ n - 1 := by omega
      obtain ⟨fn, tmps, assign, body, hy, hR⟩ := hY _ k wr hJs (by rw [List.length_range]; exact hlt)
      have HR := Lib.hid hR
      have C4 := Lib.hid c4
      have HT := Lib.hid ht
      have HV := Lib.hid hv
      have HC := Lib.hid hc
      have HY := Lib.hid hY
      clear hR c4 ht hv hc hY
      gi_wp2_with (gi_at_call 87; refine CV.out.mono ?_; rintro e w' ⟨rfl, rfl⟩)
      refine HR.out.mono ?_
      rintro e W3 (⟨rfl, hJ3, hk3⟩ | ⟨rfl, hJx3⟩)
      · gi_wp2
        go_roundw
        case rel => exact ⟨k + 1, by omega, by go_num, by rw [List.range_succ]; exact hJ3, hnx.trans hk3⟩
        case measure => simp [intOf]; omega
      · gi_wp2
        refine bodyPost_ret (results_none rfl _ _ _) rfl ?_
        exact ⟨⟨_, rfl⟩, .inr ⟨_, ⟨k + 1, by omega, List.range_succ.symm⟩, hJx3⟩⟩
    · obtain rfl : k = len := by omega
      gi_wp2
      go_end0
      exact ⟨⟨_, rfl⟩, .inl ⟨_, rfl, hJs⟩⟩

/-! ### Sums of bounded numbers -/
theorem le_abs (x : Rat) : x ≤ x.abs := by
  by_cases h : 0 ≤ x
  · rw [Rat.abs_of_nonneg h]; exact Rat.le_refl
  · have := Rat.abs_nonneg (x := x); grind
theorem neg_le_abs (x : Rat) : -x ≤ x.abs := by
  have := le_abs (-x); rw [Rat.abs_neg] at this; exact this
theorem abs_le_of {x y : Rat} (h1 : x ≤ y) (h2 : -x ≤ y) : x.abs ≤ y := by
  by_cases h : 0 ≤ x
  · rw [Rat.abs_of_nonneg h]; exact h1
  · rw [Rat.abs_of_nonpos (by grind)]; exact h2
theorem abs_add_le (x y : Rat) : (x + y).abs ≤ x.abs + y.abs := by
  have := le_abs x; have := le_abs y; have := neg_le_abs x; have := neg_le_abs y
  exact abs_le_of (by grind) (by grind)
theorem sum_step {s x : Nat} {B : Rat} {n : Nat} (hs : isFin s) (hx : isFin x) (hS : (fv s).abs ≤ 2 * (n : Rat) * B) (hX : (fv x).abs ≤ B) (hB : 1 ≤ B) (hB2 : B ≤ 1298074214633706907132624082305024) (hn : n ≤ 16385) :
    floatBits .add .f64 s x = some (fadd s x) ∧ isFin (fadd s x) ∧ (fv (fadd s x)).abs ≤ 2 * ((n + 1 : Nat) : Rat) * B := by
  have hn' : (n : Rat) ≤ 16385 := Rat.natCast_le_natCast.2 hn
  have hn0 : (0 : Rat) ≤ (n : Rat) := Rat.natCast_nonneg
  have e : ((n + 1 : Nat) : Rat) = (n : Rat) + 1 := by rw [Rat.natCast_add]; rfl
  have hnB : (n : Rat) * B ≤ 16385 * B := Rat.mul_le_mul_of_nonneg_right hn' (by grind)
  have htri := abs_add_le (fv s) (fv x)
  have hb : (fv s + fv x).abs ≤ 2 * ((n : Rat) * B) + B := by grind
  have hbig : (fv s + fv x).abs ≤ two 1023 := by
    refine Rat.le_trans ?_ (Rat.le_trans big_ge (two_mono (by omega)))
    grind
  obtain ⟨a1, a2, a3⟩ := fadd_ok hs hx hbig
  refine ⟨a1, a2, ?_⟩
  have h1 := a3.er
  have h2 := a3.er'
  have h3 := eps_100 (Rat.abs_nonneg (x := fv s + fv x))
  have h4 := eta_eps
  have h5 := eps_val
  have h0 := Rat.abs_nonneg (x := fv s + fv x)
  rw [e]
  have l1 := le_abs (fv s + fv x)
  have l2 := neg_le_abs (fv s + fv x)
  have hm : (fv s + fv x).abs * eps = eps * (fv s + fv x).abs := Rat.mul_comm _ _
  rw [hm] at h1 h2
  generalize eps * (fv s + fv x).abs = ex at *
  generalize (fv s + fv x).abs = ab at *
  generalize fv s + fv x = sx at *
  have hu : fv (fadd s x) ≤ 2 * ((n : Rat) + 1) * B := by grind
  have hl : -(fv (fadd s x)) ≤ 2 * ((n : Rat) + 1) * B := by grind
  exact abs_le_of hu hl

attribute [local go_sem] run_store_float
set_option maxRecDepth 100000 in
set_option maxHeartbeats 2000000 in
/-- canon.sum over that iterator. -/
theorem sum_in (F : Fence) (n : Nat) (h69 : F.fn 69) (h88 : F.fn 88) (h87 : F.fn 87) (hro : F.round = none) (hn : 4 ≤ n) (Bv Bx Bs bv b off len cap : Nat) (f v t : Nat → Nat) (hlen : len ≤ 16385) (B : Rat) (hB : 1 ≤ B) (hB2 : B ≤ 1298074214633706907132624082305024)
    (w : World) (hb1 : Bv < w.heap.size) (hb2 : Bx < w.heap.size) (hb3 : Bs < w.heap.size) (hb4 : bv < w.heap.size) (hb5 : b < w.heap.size)
    (ht : ∀ k, k < len → floatBits .mul .f64 (f k) (v k) = some (t k)) (htf : ∀ k, isFin (t k) ∧ (fv (t k)).abs ≤ B)
    (hBv : w.cell? ⟨Bv, 0, none⟩ = some (.slice (some ⟨bv, 0, none⟩) len len)) (hBx : w.cell? ⟨Bx, 0, none⟩ = some (.func (.func 87) #[] #[.pointer (some ⟨Bs, 0, none⟩)]))
    (hBs : w.cell? ⟨Bs, 0, none⟩ = some (.slice (some ⟨b, off, none⟩) len cap)) (hv : ∀ j, j < len → w.cell? ⟨bv, j, none⟩ = some (.float .f64 (v j))) (hc : FloatsAt w b off len f) :
    CallsIn F n Try.prog 69 #[.func (.func 88) #[] #[.pointer (some ⟨Bv, 0, none⟩), .pointer (some ⟨Bx, 0, none⟩)]] w fun e W' => e = .returned (.float .f64 (psum t len)) ∧ Below w.heap.size w W' := by
  have h1 : 1 ≤ n := by omega
  refine callsIn_of_wp_marks Try.func69 rfl h69 ?_ hro
  simp only [Try.ntmps69, List.size_toArray, List.length_cons, List.length_nil, Nat.reduceAdd, Nat.reduceSub, Array.replicate_succ, Array.replicate_zero, List.push_toArray, List.append_toArray, List.nil_append, List.cons_append]
  gi_wp2
  have hbel := (Below.refl w.heap.size w).alloc (Nat.le_refl _) (.cells #[.float .f64 0] 22)
  have hs : (w.alloc (.cells #[.float .f64 0] 22)).cell? ⟨w.heap.size, 0, none⟩ = some (.float .f64 0) := by simp [go_sem]
  have hf0 : (w.alloc (.cells #[.float .f64 0] 22)).frozen? ⟨w.heap.size, 0, none⟩ = false := by simp [go_sem]
  refine wpIn_rangeFunc_ownF hro h1 (gf := 88) (lb := #[.pointer (some ⟨Bv, 0, none⟩), .pointer (some ⟨Bx, 0, none⟩)]) rfl h88 (enters_of Try.func88 (by kernel_rfl) rfl)
    (encs := fun x : Nat => #[.float .f64 (t x)]) (Kp := Below w.heap.size) (S := fun ys => ys = List.range len) (Sp := fun pre => ∃ k, k ≤ len ∧ pre = List.range k) (N := len) (w0 := w.alloc (.cells #[.float .f64 0] 22))
    ?seq belowK_t (belowK_b (by simp)) (Below.refl _ _) (fun _ => rfl)
    (fun pre W => (∃ s, W.cell? ⟨w.heap.size, 0, none⟩ = some (.float .f64 s) ∧ W.frozen? ⟨w.heap.size, 0, none⟩ = false ∧ isFin s ∧ (fv s).abs ≤ 2 * (pre.length : Rat) * B ∧ (pre = List.range pre.length → s = psum t pre.length)) ∧ Below w.heap.size w W)
    (fun _ _ _ => False) ?own ?ownx ?start
    (fun x => { tmps := #[.func (.func 88) #[] #[.pointer (some ⟨Bv, 0, none⟩), .pointer (some ⟨Bx, 0, none⟩)], undef, .float .f64 0, .pointer (some ⟨w.heap.size, 0, none⟩), .float .f64 (t x),
        .func (.func 88) #[] #[.pointer (some ⟨Bv, 0, none⟩), .pointer (some ⟨Bx, 0, none⟩)], .float .f64 (t x), undef, undef, undef, undef], defers := [] }) ?assign ?body ?done ?stop
  case seq =>
    intro l J Jx W hW _ _ hY hJ0
    have hk : ∀ (p : Addr), p.block < w.heap.size → W.cell? p = w.cell? p := fun p hp => (hW.cell (p := p) (by simp; omega)).trans (hbel.cell hp)
    exact (terms1_in F (n - 1) h88 h87 hro (by omega) l Bv Bx Bs bv b off len cap w.heap.size f v t hlen hb1 hb2 hb3 hb4 hb5 ht J Jx hY W ((hk _ hb1).trans hBv) ((hk _ hb2).trans hBx) ((hk _ hb3).trans hBs)
      (fun j hj => (hk _ hb4).trans (hv j hj)) (fun j hj => (hk _ hb5).trans (hc j hj)) hJ0).mono fun e W' h => h
  case own =>
    refine OwnFrom.and (Own.from (fun s A C row hs hg hr => ?_) _) (ownFrom_below (Nat.le_refl _) (by simp))
    obtain ⟨x, h1, h2, h3⟩ := hs
    exact ⟨x, cell_kept h1 hg hr, (frozen_kept h1 hg hr).trans h2, h3⟩
  case ownx => exact fun _ _ _ _ _ hs _ _ => hs
  case start =>
    exact ⟨⟨0, hs, hf0, isFin_zero, by rw [fv_zero, Rat.abs_zero]; simp, fun _ => rfl⟩, hbel⟩
  case assign =>
    intro l x W K hK
    gi_wp2
    exact hK
  case body =>
    rintro l pre x W ⟨⟨s, hc1, hf1, hs1, hs2, hs3⟩, hB1⟩ hlt
    obtain ⟨a1, a2, a3⟩ := sum_step hs1 (htf x).1 hs2 (htf x).2 hB hB2 (by omega)
    have hadd := fun ty W => run_float_arith (P := Try.prog) W .add ty .f64 _ _ _ a1
    have HS3 := Lib.hid hs3
    have HA3 := Lib.hid a3
    have HT := Lib.hid ht
    clear hs3 ht a3 a1
    gi_wp2
    refine ⟨KeepsOthers.setCell _ _ _, (Below.refl w.heap.size W).setCell (p := ⟨w.heap.size, 0, none⟩) (Nat.le_refl _) _, ⟨fadd s (t x), World.cell?_setCell_same' _ _ _ (by rw [hc1]; rfl), by rw [World.frozen?_setCell]; exact hf1, a2, by rw [List.length_append]; exact HA3.out, fun he => ?_⟩, hB1.setCell (p := ⟨w.heap.size, 0, none⟩) (Nat.le_refl _) _⟩
    rw [List.length_append, List.length_singleton, List.range_succ] at he
    obtain ⟨e1, e2⟩ := List.append_inj he (by simp)
    have e3 : x = pre.length := by simpa using e2
    rw [List.length_append, List.length_singleton, HS3.out e1, e3]
    rfl
  case done =>
    rintro D ys W hD rfl ⟨⟨s, hc, _, _, _, hp⟩, hB⟩ hK
    have hp' := hp (by rw [List.length_range])
    rw [List.length_range] at hp'
    have HP := Lib.hid hp'
    clear hp hp'
    gi_wp2
    refine ⟨by simp, .inl ⟨_, _, rfl, run_takeDeferred hK, ?_⟩⟩
    exact ⟨_, results_tmp rfl _ _ _, by rw [← HP.out]; rfl, hB.trans (belowK_b (w := w) (Nat.le_refl _) W D _ _ (by simp at hD; omega) hK rfl rfl)⟩
  case stop =>
    rintro D c pre W _ _ h _
    exact h.elim

/-! ### The same over the differences -/
set_option maxHeartbeats 1000000 in
theorem diff_c (k Bs b off len cap : Nat) (f g : Nat → Nat) (W : World) (hk : k + 1 < len) (_hlen : len ≤ 16385)
    (hBs : W.cell? ⟨Bs, 0, none⟩ = some (.slice (some ⟨b, off, none⟩) len cap)) (hc : FloatsAt W b off len f)
    (hg : floatBits .sub .f64 (f (k + 1)) (f k) = some (g k)) :
    Calls Try.prog 68 #[.int .i64 k, .pointer (some ⟨Bs, 0, none⟩)] W fun e W' => e = .returned (.float .f64 (g k)) ∧ W.drew = W' := by
  have hc1 := hc k (by omega)
  have hc2 := hc (k + 1) hk
  have l1 : (k : Int) < (len : Int) := by omega
  have l2 : (k : Int) + 1 < (len : Int) := by omega
  have hs := fun ty W => run_float_arith (P := Try.prog) W .sub ty .f64 _ _ _ hg
  clear hc hg
  go_enter Try.func68, Try.ntmps68
  go_wp2
  go_region
  go_wp2
  go_ret
  exact ⟨rfl, rfl⟩
set_option maxRecDepth 100000 in
set_option maxHeartbeats 2000000 in
/-- The iterator of terms, at the differences of a list. -/
theorem terms2_in (F : Fence) (n : Nat) (h88 : F.fn 88) (h68 : F.fn 68) (hro : F.round = none) (hn : 2 ≤ n) (l Bv Bx Bs bv len n₀ : Nat) (f v t : Nat → Nat) (hlen : len ≤ 16385)
    (_hb1 : Bv < n₀) (hb2 : Bx < n₀) (hb4 : bv < n₀)
    (ht : ∀ k, k < len → floatBits .mul .f64 (f k) (v k) = some (t k)) (J Jx : List Nat → World → Prop)
    (hJ : ∀ s A, J s A → J s A.drew)
    (hY : ∀ pre x W, J pre W → pre.length < len → YieldAt F (n - 1) Try.prog l #[.float .f64 (t x)] W fun e W' =>
      (e = .returned (.bool true) ∧ J (pre ++ [x]) W' ∧ Below n₀ W W') ∨ (e = .returned (.bool false) ∧ Jx (pre ++ [x]) W'))
    (W : World) (hBv : W.cell? ⟨Bv, 0, none⟩ = some (.slice (some ⟨bv, 0, none⟩) len len)) (hBx : W.cell? ⟨Bx, 0, none⟩ = some (.func (.func 68) #[] #[.pointer (some ⟨Bs, 0, none⟩)]))
    (hx : ∀ k wr, k < len → Below n₀ W wr → CallsIn F (n - 1) Try.prog 68 #[.int .i64 k, .pointer (some ⟨Bs, 0, none⟩)] wr fun e w' => e = .returned (.float .f64 (f k)) ∧ wr.drew = w') (hv : ∀ j, j < len → W.cell? ⟨bv, j, none⟩ = some (.float .f64 (v j))) (h0 : J [] W) :
    CallsIn F n Try.prog 88 #[.func (.yield l) #[] #[], .pointer (some ⟨Bv, 0, none⟩), .pointer (some ⟨Bx, 0, none⟩)] W fun e W' => (∃ v, e = .returned v) ∧
      ((∃ ys, ys = List.range len ∧ J ys W') ∨ (∃ pre, (∃ k, k ≤ len ∧ pre = List.range k) ∧ Jx pre W')) := by
  refine callsIn_of_wp Try.func88 rfl h88 ?_ hro
  simp only [Try.ntmps88, List.size_toArray, List.length_cons, List.length_nil, Nat.reduceAdd, Nat.reduceSub, Array.replicate_succ, Array.replicate_zero, List.push_toArray, List.append_toArray, List.nil_append, List.cons_append]
  gi_wp2
  gi_loopw [8] (fun i wr => ∃ k : Nat, k ≤ len ∧ i = .int .i64 k ∧ J (List.range k) wr ∧ Below n₀ W wr)
    (fun i _ => len - (intOf i).toNat)
  case atStart => exact ⟨0, Nat.zero_le _, rfl, h0, Below.refl _ _⟩
  case round =>
    obtain ⟨k, hk, rfl, hJs, hnx⟩ := hrel
    by_cases hlt : k < len
    · have c1 := (hnx.cell (p := ⟨bv, k, none⟩) hb4).trans (hv k hlt)
      have c2 := (hnx.cell (p := ⟨Bx, 0, none⟩) hb2).trans hBx
      have hm := fun ty W => run_float_arith (P := Try.prog) W .mul ty .f64 _ _ _ (ht k hlt)
      have CV := Lib.hid (hx k wr hlt hnx)
      have l1 : (k : Int) < (len : Int) := by omega
      have l2 : 1 ≤ n := by omega
      have l3 : 1 ≤ n - 1 := by omega
      obtain ⟨fn, tmps, assign, body, hy, hR⟩ := hY _ k wr.drew (hJ _ wr hJs) (by rw [List.length_range]; exact hlt)
      have HR := Lib.hid hR
      have HT := Lib.hid ht
      have HV := Lib.hid hv
      have HX := Lib.hid hx
      have HJ := Lib.hid hJ
      have HY := Lib.hid hY
      clear hR ht hv hx hY hJ
      gi_wp2_with (gi_at_call 68; refine CV.out.mono ?_; rintro e w' ⟨rfl, rfl⟩)
      refine HR.out.mono ?_
      rintro e W3 (⟨rfl, hJ3, hk3⟩ | ⟨rfl, hJx3⟩)
      · gi_wp2
        go_roundw
        case rel => exact ⟨k + 1, by omega, by go_num, by rw [List.range_succ]; exact hJ3, hnx.drew.trans hk3⟩
        case measure => simp [intOf]; omega
      · gi_wp2
        refine bodyPost_ret (results_none rfl _ _ _) rfl ?_
        exact ⟨⟨_, rfl⟩, .inr ⟨_, ⟨k + 1, by omega, List.range_succ.symm⟩, hJx3⟩⟩
    · obtain rfl : k = len := by omega
      gi_wp2
      go_end0
      exact ⟨⟨_, rfl⟩, .inl ⟨_, rfl, hJs⟩⟩

set_option maxRecDepth 100000 in
set_option maxHeartbeats 2000000 in
/-- canon.sum over that iterator. -/
theorem sum2_in (F : Fence) (n : Nat) (h69 : F.fn 69) (h88 : F.fn 88) (h68 : F.fn 68) (hro : F.round = none) (hn : 4 ≤ n) (Bv Bx Bs bv len : Nat) (f v t : Nat → Nat) (hlen : len ≤ 16385) (B : Rat) (hB : 1 ≤ B) (hB2 : B ≤ 1298074214633706907132624082305024)
    (w : World) (hb1 : Bv < w.heap.size) (hb2 : Bx < w.heap.size) (hb4 : bv < w.heap.size)
    (ht : ∀ k, k < len → floatBits .mul .f64 (f k) (v k) = some (t k)) (htf : ∀ k, isFin (t k) ∧ (fv (t k)).abs ≤ B)
    (hBv : w.cell? ⟨Bv, 0, none⟩ = some (.slice (some ⟨bv, 0, none⟩) len len)) (hBx : w.cell? ⟨Bx, 0, none⟩ = some (.func (.func 68) #[] #[.pointer (some ⟨Bs, 0, none⟩)]))
    (hx : ∀ k wr, k < len → Below w.heap.size w wr → CallsIn F (n - 1 - 1) Try.prog 68 #[.int .i64 k, .pointer (some ⟨Bs, 0, none⟩)] wr fun e w' => e = .returned (.float .f64 (f k)) ∧ wr.drew = w') (hv : ∀ j, j < len → w.cell? ⟨bv, j, none⟩ = some (.float .f64 (v j))) :
    CallsIn F n Try.prog 69 #[.func (.func 88) #[] #[.pointer (some ⟨Bv, 0, none⟩), .pointer (some ⟨Bx, 0, none⟩)]] w fun e W' => e = .returned (.float .f64 (psum t len)) ∧ Below w.heap.size w W' := by
  have h1 : 1 ≤ n := by omega
  refine callsIn_of_wp_marks Try.func69 rfl h69 ?_ hro
  simp only [Try.ntmps69, List.size_toArray, List.length_cons, List.length_nil, Nat.reduceAdd, Nat.reduceSub, Array.replicate_succ, Array.replicate_zero, List.push_toArray, List.append_toArray, List.nil_append, List.cons_append]
  gi_wp2
  have hbel := (Below.refl w.heap.size w).alloc (Nat.le_refl _) (.cells #[.float .f64 0] 22)
  have hs : (w.alloc (.cells #[.float .f64 0] 22)).cell? ⟨w.heap.size, 0, none⟩ = some (.float .f64 0) := by simp [go_sem]
  have hf0 : (w.alloc (.cells #[.float .f64 0] 22)).frozen? ⟨w.heap.size, 0, none⟩ = false := by simp [go_sem]
  refine wpIn_rangeFunc_ownF hro h1 (gf := 88) (lb := #[.pointer (some ⟨Bv, 0, none⟩), .pointer (some ⟨Bx, 0, none⟩)]) rfl h88 (enters_of Try.func88 (by kernel_rfl) rfl)
    (encs := fun x : Nat => #[.float .f64 (t x)]) (Kp := Below w.heap.size) (S := fun ys => ys = List.range len) (Sp := fun pre => ∃ k, k ≤ len ∧ pre = List.range k) (N := len) (w0 := w.alloc (.cells #[.float .f64 0] 22))
    ?seq belowK_t (belowK_b (by simp)) (Below.refl _ _) (fun _ => rfl)
    (fun pre W => (∃ s, W.cell? ⟨w.heap.size, 0, none⟩ = some (.float .f64 s) ∧ W.frozen? ⟨w.heap.size, 0, none⟩ = false ∧ isFin s ∧ (fv s).abs ≤ 2 * (pre.length : Rat) * B ∧ (pre = List.range pre.length → s = psum t pre.length)) ∧ Below w.heap.size w W)
    (fun _ _ _ => False) ?own ?ownx ?start
    (fun x => { tmps := #[.func (.func 88) #[] #[.pointer (some ⟨Bv, 0, none⟩), .pointer (some ⟨Bx, 0, none⟩)], undef, .float .f64 0, .pointer (some ⟨w.heap.size, 0, none⟩), .float .f64 (t x),
        .func (.func 88) #[] #[.pointer (some ⟨Bv, 0, none⟩), .pointer (some ⟨Bx, 0, none⟩)], .float .f64 (t x), undef, undef, undef, undef], defers := [] }) ?assign ?body ?done ?stop
  case seq =>
    intro l J Jx W hW hJ _ hY hJ0
    have hk : ∀ (p : Addr), p.block < w.heap.size → W.cell? p = w.cell? p := fun p hp => (hW.cell (p := p) (by simp; omega)).trans (hbel.cell hp)
    exact (terms2_in F (n - 1) h88 h68 hro (by omega) l Bv Bx Bs bv len w.heap.size f v t hlen hb1 hb2 hb4 ht J Jx (fun s A h => hJ s A A.drew none h ⟨rfl, rfl, rfl, Nat.le_refl _, fun _ _ _ => rfl⟩ (fun r e => by cases e)) hY W ((hk _ hb1).trans hBv) ((hk _ hb2).trans hBx)
      (fun k wr hk2 hb => hx k wr hk2 ((hbel.trans (hW.mono (by simp))).trans hb)) (fun j hj => (hk _ hb4).trans (hv j hj)) hJ0).mono fun e W' h => h
  case own =>
    refine OwnFrom.and (Own.from (fun s A C row hs hg hr => ?_) _) (ownFrom_below (Nat.le_refl _) (by simp))
    obtain ⟨x, h1, h2, h3⟩ := hs
    exact ⟨x, cell_kept h1 hg hr, (frozen_kept h1 hg hr).trans h2, h3⟩
  case ownx => exact fun _ _ _ _ _ hs _ _ => hs
  case start =>
    exact ⟨⟨0, hs, hf0, isFin_zero, by rw [fv_zero, Rat.abs_zero]; simp, fun _ => rfl⟩, hbel⟩
  case assign =>
    intro l x W K hK
    gi_wp2
    exact hK
  case body =>
    rintro l pre x W ⟨⟨s, hc1, hf1, hs1, hs2, hs3⟩, hB1⟩ hlt
    obtain ⟨a1, a2, a3⟩ := sum_step hs1 (htf x).1 hs2 (htf x).2 hB hB2 (by omega)
    have hadd := fun ty W => run_float_arith (P := Try.prog) W .add ty .f64 _ _ _ a1
    have HS3 := Lib.hid hs3
    have HA3 := Lib.hid a3
    have HT := Lib.hid ht
    clear hs3 ht a3 a1
    gi_wp2
    refine ⟨KeepsOthers.setCell _ _ _, (Below.refl w.heap.size W).setCell (p := ⟨w.heap.size, 0, none⟩) (Nat.le_refl _) _, ⟨fadd s (t x), World.cell?_setCell_same' _ _ _ (by rw [hc1]; rfl), by rw [World.frozen?_setCell]; exact hf1, a2, by rw [List.length_append]; exact HA3.out, fun he => ?_⟩, hB1.setCell (p := ⟨w.heap.size, 0, none⟩) (Nat.le_refl _) _⟩
    rw [List.length_append, List.length_singleton, List.range_succ] at he
    obtain ⟨e1, e2⟩ := List.append_inj he (by simp)
    have e3 : x = pre.length := by simpa using e2
    rw [List.length_append, List.length_singleton, HS3.out e1, e3]
    rfl
  case done =>
    rintro D ys W hD rfl ⟨⟨s, hc, _, _, _, hp⟩, hB⟩ hK
    have hp' := hp (by rw [List.length_range])
    rw [List.length_range] at hp'
    have HP := Lib.hid hp'
    clear hp hp'
    gi_wp2
    refine ⟨by simp, .inl ⟨_, _, rfl, run_takeDeferred hK, ?_⟩⟩
    exact ⟨_, results_tmp rfl _ _ _, by rw [← HP.out]; rfl, hB.trans (belowK_b (w := w) (Nat.le_refl _) W D _ _ (by simp at hD; omega) hK rfl rfl)⟩
  case stop =>
    rintro D c pre W _ _ h _
    exact h.elim
end Go.Proofs.Ytcgoicijbmhmpaa
