/-
  The slopes: program and reference.
-/
import Derived.Test.YtcgoicijbmhmpaaW8
import Derived.Deep.RegionLaw
import Derived.Deep.AppendLies
namespace Go.Proofs.Ytcgoicijbmhmpaa
open Go.RowKit Go.Fl Go.Deep

/-! ### Slopes -/
def diff (f : Nat → Nat) (k : Nat) : Nat := fsub (f (k + 1)) (f k)
/-- The slope of m + 1 values. -/
def slope (f : Nat → Nat) (m p : Nat) : Nat := if m = 0 then 0 else fmul (ofI (m : Nat)) (avg (diff f) (m - 1) p)

theorem diff_ok {f : Nat → Nat} {k : Nat} (h1 : isFin (f k) ∧ (fv (f k)).abs ≤ 1267650600228229401496703205376) (h2 : isFin (f (k + 1)) ∧ (fv (f (k + 1))).abs ≤ 1267650600228229401496703205376) :
    floatBits .sub .f64 (f (k + 1)) (f k) = some (diff f k) ∧ isFin (diff f k) ∧ (fv (diff f k)).abs ≤ 4 * 1267650600228229401496703205376 := by
  obtain ⟨a1, a2⟩ := h1
  obtain ⟨b1, b2⟩ := h2
  have l1 := le_abs (fv (f k)); have l2 := neg_le_abs (fv (f k))
  have l3 := le_abs (fv (f (k + 1))); have l4 := neg_le_abs (fv (f (k + 1)))
  have hb : (fv (f (k + 1)) - fv (f k)).abs ≤ 2 * 1267650600228229401496703205376 := abs_le_of (by grind) (by grind)
  obtain ⟨c1, c2, c3⟩ := fsub_ok b1 a1 (Rat.le_trans hb (Rat.le_trans (by grind) (Rat.le_trans big_ge (two_mono (by omega)))))
  refine ⟨c1, c2, ?_⟩
  have e1 := c3.er
  have e2 := c3.er'
  have h3 := eps_100 (Rat.abs_nonneg (x := fv (f (k + 1)) - fv (f k)))
  have h4 := eta_eps
  have h5 := eps_val
  have l5 := le_abs (fv (f (k + 1)) - fv (f k)); have l6 := neg_le_abs (fv (f (k + 1)) - fv (f k))
  have hm : (fv (f (k + 1)) - fv (f k)).abs * eps = eps * (fv (f (k + 1)) - fv (f k)).abs := Rat.mul_comm _ _
  rw [hm] at e1 e2
  generalize eps * (fv (f (k + 1)) - fv (f k)).abs = ex at *
  generalize (fv (f (k + 1)) - fv (f k)).abs = ab at *
  generalize fv (f (k + 1)) - fv (f k) = sx at *
  unfold diff
  clear c1 c2 c3 l1 l2 l3 l4 a1 a2 b1 b2
  exact abs_le_of (by grind) (by grind)
/-- The last product of a slope. -/
theorem slope_mul {m a : Nat} (hm : m ≤ 16384) (ha : isFin a) (hb : (fv a).abs ≤ 100000 * 16 * 1267650600228229401496703205376) :
    floatBits .mul .f64 (floatOfInt .f64 (m : Int)) a = some (fmul (ofI (m : Nat)) a) := by
  obtain ⟨fm, vm⟩ := ofN_ok m (by omega)
  have hm' : (m : Rat) ≤ 16384 := Rat.natCast_le_natCast.2 hm
  have hm0 : (0 : Rat) ≤ (m : Rat) := Rat.natCast_nonneg
  refine (fmul_ok fm ha ?_).1
  rw [vm]
  have l1 := le_abs (fv a); have l2 := neg_le_abs (fv a)
  have h0 := Rat.abs_nonneg (x := fv a)
  have m1 : (m : Rat) * fv a ≤ (m : Rat) * (fv a).abs := Rat.mul_le_mul_of_nonneg_left l1 hm0
  have m2 : (m : Rat) * -fv a ≤ (m : Rat) * (fv a).abs := Rat.mul_le_mul_of_nonneg_left l2 hm0
  have m3 : (m : Rat) * (fv a).abs ≤ 16384 * (fv a).abs := Rat.mul_le_mul_of_nonneg_right hm' h0
  refine Rat.le_trans (abs_le_of (y := 16384 * (100000 * 16 * 1267650600228229401496703205376)) ?_ ?_) (Rat.le_trans ?_ (Rat.le_trans big_ge (two_mono (by omega)))) <;> grind

theorem avg_ok {g : Nat → Nat} {m p : Nat} (h : Ok m p) (hg : ∀ k, k ≤ m → isFin (g k) ∧ (fv (g k)).abs ≤ 4 * 1267650600228229401496703205376) :
    isFin (avg g m p) ∧ (fv (avg g m p)).abs ≤ 100000 * 16 * 1267650600228229401496703205376 := by
  obtain ⟨_, t2⟩ := term_ok h (B := 4 * 1267650600228229401496703205376) (by grind) (by grind) hg
  have hm := h.m
  obtain ⟨a, b⟩ := psum_bounded (B := 2 * (4 * 1267650600228229401496703205376)) (by grind) (by grind) t2 (m + 1) (by omega)
  refine ⟨a, Rat.le_trans b ?_⟩
  have : ((m + 1 : Nat) : Rat) ≤ 16385 := Rat.natCast_le_natCast.2 (show m + 1 ≤ 16385 by omega)
  grind

set_option maxRecDepth 100000 in
set_option maxHeartbeats 1000000 in
/-- canon.Slope of two or more values. -/
theorem Slope_ok (A : Option Addr) (m c p : Nat) (f : Nat → Nat) (w : World) (h : ListIn w A (m + 2) f) (hp : p < 2 ^ 64) (hl : listB (m + 2) f = true) (hpr : prob p = true) :
    Calls Try.prog 33 #[.slice A (m + 2) c, .float .f64 p] w fun e w' => e = .returned (.tuple #[.float .f64 (slope f (m + 1) (absb p)), .int .i64 0]) ∧ Below w.heap.size w w' := by
  obtain ⟨h1, h2, _⟩ := listB_parts hl
  obtain ⟨b, off, rfl, hb, hc⟩ := h.row (by omega)
  have hvf := vals_fin h.wf hl
  have ok := ok_abs (m := m) (by omega) hp hpr
  have hd := fun k (hk : k ≤ m) => diff_ok (f := f) (k := k) (hvf k (by omega)) (hvf (k + 1) (by omega))
  obtain ⟨t1, t2⟩ := term_ok ok (B := 4 * 1267650600228229401496703205376) (by grind) (by grind) (fun k hk => (hd k hk).2)
  obtain ⟨av1, av2⟩ := avg_ok ok (fun k hk => (hd k hk).2)
  have hmul := fun ty W => run_float_arith (P := Try.prog) W .mul ty .f64 _ _ _ (slope_mul (m := m + 1) (by omega) av1 av2)
  have e1 : ((m + 1 : Nat) : Int) = (m : Int) + 2 - 1 := by omega
  have es : slope f (m + 1) (absb p) = fmul (ofI ((m + 1 : Nat) : Int)) (avg (diff f) m (absb p)) := by unfold slope; rw [if_neg (by omega), Nat.add_sub_cancel]
  rw [e1] at hmul es
  rw [es]
  have CL := Lib.hid (fun W hr => isList_any (some ⟨b, off, none⟩) (m + 2) c f W hr h.wf h.len)
  rw [hl] at CL
  have CP := Lib.hid (fun W => isProb_any p W)
  rw [hpr] at CP
  have CW := Lib.hid (fun W => weights_c m p W (by omega) hp hpr)
  rw [show (m : Int) = (m : Int) + 2 - 1 - 1 by omega] at CW
  have CT := Lib.hid (fun W => terms_any (.func (.func 68) #[] #[.pointer (some ⟨w.heap.size, 0, none⟩)]) (.slice (some ⟨w.heap.size + 1, 0, none⟩) (m + 1) (m + 1)) W (some ⟨w.heap.size, 0, none⟩) (.inr rfl) (w.heap.size + 1) (m + 1) rfl)
  have HR : Hid (RowF (w.alloc (.cells #[.slice (some ⟨b, off, none⟩) (m + 2) c] 24)) (some ⟨b, off, none⟩) (m + 2) f) :=
    fun _ => ⟨b, off, rfl, by simp; omega, fun j hj => (World.cell?_alloc_lt _ _ _ hb).trans (hc j hj)⟩
  have HC := Lib.hid hc
  have HD := Lib.hid hd
  have T1 := Lib.hid t1
  have T2 := Lib.hid t2
  have AV := Lib.hid av1
  have AV2 := Lib.hid av2
  have OK := Lib.hid ok
  have HVF := Lib.hid hvf
  clear hc h hl hpr hd t1 t2 ok hvf av1 av2 es e1
  go_enter Try.func33, Try.ntmps33
  go_wp2_with (first | (go_at_call 64; refine (CL.out _ HR.out).mono ?_; rintro e w' ⟨rfl, rfl⟩) | (go_at_call 60; refine (CP.out _).mono ?_; rintro e w' ⟨rfl, rfl⟩) | (go_at_call 61; refine (CW.out _).mono ?_; rintro e w1 ⟨rfl, hrow, hbel⟩) | (go_at_call 70; refine (CT.out _).mono ?_; rintro e w2 ⟨rfl, rfl⟩))
  have hsz : w.heap.size + 1 ≤ w1.heap.size := by have := hbel.size; simpa using this
  have hb0 : Below w.heap.size w w1 := ((Below.refl _ w).alloc (Nat.le_refl _) _).trans (hbel.mono (by simp))
  rw [World.size_alloc] at hrow hbel
  have k1 : ∀ q : Addr, q.block < w1.heap.size → ((w1.alloc (.cells #[Value.func (.func 68) #[] #[.pointer (some ⟨w.heap.size, 0, none⟩)]] 64)).alloc (.cells #[Value.slice (some ⟨w.heap.size + 1, 0, none⟩) (m + 1) (m + 1)] 24)).cell? q = w1.cell? q :=
    fun q hq => (World.cell?_alloc_lt _ _ q (by simp; omega)).trans (World.cell?_alloc_lt _ _ q hq)
  have S := (callsIn_wide (n := 4)).1 (sum2_in Fence.wide 4 trivial trivial trivial rfl (by omega) (w1.heap.size + 1) w1.heap.size w.heap.size (w.heap.size + 1) (m + 1) (diff f) (wt m (absb p)) (term (diff f) m (absb p)) (by omega) (2 * (4 * 1267650600228229401496703205376)) (by grind) (by grind)
    ((w1.alloc (.cells #[Value.func (.func 68) #[] #[.pointer (some ⟨w.heap.size, 0, none⟩)]] 64)).alloc (.cells #[Value.slice (some ⟨w.heap.size + 1, 0, none⟩) (m + 1) (m + 1)] 24))
    (by simp) (by simp; omega) (by simp; omega) (fun k hk => T1.out k (by omega)) T2.out
    (by simp [go_sem]) (by simp [go_sem])
    (fun k wr hk hbr => callsIn_wide.2 (diff_c k w.heap.size b off (m + 2) c f (diff f) wr (by omega) (by omega)
      ((hbr.cell (p := ⟨w.heap.size, 0, none⟩) (by simp; omega)).trans ((k1 _ (by show w.heap.size < _; omega)).trans ((hbel.cell (p := ⟨w.heap.size, 0, none⟩) (by simp)).trans (by simp [go_sem]))))
      (fun j hj => (hbr.cell (p := ⟨b, off + j, none⟩) (by simp; omega)).trans ((k1 _ (by show b < _; omega)).trans ((hb0.cell (p := ⟨b, off + j, none⟩) hb).trans (HC.out j hj))))
      (HD.out k (by omega)).1))
    (fun j hj => (k1 _ (by show w.heap.size + 1 < _; exact hrow.lt)).trans (hrow.cell hj)))
  refine S.mono ?_
  rintro e w' ⟨rfl, hb3⟩
  have ea : psum (term (diff f) m (absb p)) (m + 1) = avg (diff f) m (absb p) := rfl
  rw [ea]
  clear ea
  go_wp2
  go_ret2
  exact ⟨rfl, (hb0.trans (((Below.refl w.heap.size w1).alloc (by omega) _).alloc (by simp; omega) _)).trans (hb3.mono (by simp; omega))⟩

set_option maxHeartbeats 1000000 in
/-- canon.Slope of one value. -/
theorem Slope_one (A : Option Addr) (c p : Nat) (f : Nat → Nat) (w : World) (h : ListIn w A 1 f) (hl : listB 1 f = true) (hpr : prob p = true) :
    Calls Try.prog 33 #[.slice A 1 c, .float .f64 p] w fun e w' => e = .returned (.tuple #[.float .f64 (slope f 0 (absb p)), .int .i64 0]) ∧ Below w.heap.size w w' := by
  have CL := Lib.hid (fun W hr => isList_any A 1 c f W hr h.wf h.len)
  rw [hl] at CL
  have CP := Lib.hid (fun W => isProb_any p W)
  rw [hpr] at CP
  have HR : Hid (RowF (w.alloc (.cells #[.slice A 1 c] 24)) A 1 f) := fun h0 => by
    obtain ⟨b, off, hA, hb, hc⟩ := h.row h0
    exact ⟨b, off, hA, by simp; omega, fun j hj => (World.cell?_alloc_lt _ _ _ hb).trans (hc j hj)⟩
  clear h hl hpr
  go_enter Try.func33, Try.ntmps33
  go_wp2_with (first | (go_at_call 64; refine (CL.out _ HR.out).mono ?_; rintro e w' ⟨rfl, rfl⟩) | (go_at_call 60; refine (CP.out _).mono ?_; rintro e w' ⟨rfl, rfl⟩))
  go_ret2
  exact ⟨rfl, (Below.refl _ w).alloc (Nat.le_refl _) _⟩
set_option maxHeartbeats 1000000 in
/-- .. where it rejects. -/
theorem Slope_bad (A : Option Addr) (n c p : Nat) (f : Nat → Nat) (w : World) (h : ListIn w A n f) (hbad : (listB n f && prob p) = false) :
    Calls Try.prog 33 #[.slice A n c, .float .f64 p] w fun e w' => e = .returned (.tuple #[.float .f64 0, .int .i64 2]) ∧ Below w.heap.size w w' := by
  have HR : Hid (RowF (w.alloc (.cells #[.slice A n c] 24)) A n f) := fun h0 => by
    obtain ⟨b, off, hA, hb, hc⟩ := h.row h0
    exact ⟨b, off, hA, by simp; omega, fun j hj => (World.cell?_alloc_lt _ _ _ hb).trans (hc j hj)⟩
  have CL := Lib.hid (fun W hr => isList_any A n c f W hr h.wf h.len)
  have CP := Lib.hid (fun W => isProb_any p W)
  clear h
  cases hl : listB n f with
  | false =>
    rw [hl] at CL
    clear hbad hl
    go_enter Try.func33, Try.ntmps33
    go_wp2_with (first | (go_at_call 64; refine (CL.out _ HR.out).mono ?_; rintro e w' ⟨rfl, rfl⟩) | (go_at_call 60; refine (CP.out _).mono ?_; rintro e w' ⟨rfl, rfl⟩))
    go_ret2
    exact ⟨rfl, (Below.refl _ w).alloc (Nat.le_refl _) _⟩
  | true =>
    rw [hl, Bool.true_and] at hbad
    rw [hl] at CL
    rw [hbad] at CP
    clear hbad hl
    go_enter Try.func33, Try.ntmps33
    go_wp2_with (first | (go_at_call 64; refine (CL.out _ HR.out).mono ?_; rintro e w' ⟨rfl, rfl⟩) | (go_at_call 60; refine (CP.out _).mono ?_; rintro e w' ⟨rfl, rfl⟩))
    go_ret2
    exact ⟨rfl, (Below.refl _ w).alloc (Nat.le_refl _) _⟩
set_option maxHeartbeats 1000000 in
theorem refSlope_one (A : Option Addr) (c p : Nat) (f : Nat → Nat) (w : World) (h : ListIn w A 1 f) (hl : listB 1 f = true) (hpr : prob p = true) :
    Calls Try.prog 34 #[.slice A 1 c, .float .f64 p] w fun e w' => e = .returned (.tuple #[.float .f64 (slope f 0 (absb p)), .int .i64 0]) ∧ Below w.heap.size w w' := by
  have CL := Lib.hid (list_any A 1 c f w h.row h.wf h.len)
  rw [hl] at CL
  have CP := Lib.hid (fun W => isProb_any2 p W)
  rw [hpr] at CP
  clear h hl hpr
  go_enter Try.func34, Try.ntmps34
  go_wp2_with (first | (go_at_call 66; refine CL.out.mono ?_; rintro e w' ⟨rfl, rfl⟩) | (go_at_call 62; refine (CP.out _).mono ?_; rintro e w' ⟨rfl, rfl⟩))
  go_ret2
  exact ⟨rfl, Below.refl _ w⟩
set_option maxHeartbeats 1000000 in
theorem refSlope_bad (A : Option Addr) (n c p : Nat) (f : Nat → Nat) (w : World) (h : ListIn w A n f) (hbad : (listB n f && prob p) = false) :
    Calls Try.prog 34 #[.slice A n c, .float .f64 p] w fun e w' => e = .returned (.tuple #[.float .f64 0, .int .i64 2]) ∧ Below w.heap.size w w' := by
  have CL := Lib.hid (list_any A n c f w h.row h.wf h.len)
  have CP := Lib.hid (fun W => isProb_any2 p W)
  clear h
  cases hl : listB n f with
  | false =>
    rw [hl] at CL
    clear hbad hl
    go_enter Try.func34, Try.ntmps34
    go_wp2_with (first | (go_at_call 66; refine CL.out.mono ?_; rintro e w' ⟨rfl, rfl⟩) | (go_at_call 62; refine (CP.out _).mono ?_; rintro e w' ⟨rfl, rfl⟩))
    go_ret2
    exact ⟨rfl, Below.refl _ w⟩
  | true =>
    rw [hl, Bool.true_and] at hbad
    rw [hl] at CL
    rw [hbad] at CP
    clear hbad hl
    go_enter Try.func34, Try.ntmps34
    go_wp2_with (first | (go_at_call 66; refine CL.out.mono ?_; rintro e w' ⟨rfl, rfl⟩) | (go_at_call 62; refine (CP.out _).mono ?_; rintro e w' ⟨rfl, rfl⟩))
    go_ret2
    exact ⟨rfl, Below.refl _ w⟩

/-- The floats of a list as cells. -/
def cellsOf (g : Nat → Nat) (k : Nat) : List Value := (List.range k).map (fun j => .float .f64 (g j))
theorem cellsOf_succ (g : Nat → Nat) (k : Nat) : cellsOf g (k + 1) = cellsOf g k ++ [.float .f64 (g k)] := by unfold cellsOf; rw [List.range_succ, List.map_append]; rfl
theorem cellsOf_get (g : Nat → Nat) (k j : Nat) (h : j < k) : (cellsOf g k)[j]? = some (.float .f64 (g j)) := by unfold cellsOf; simp [h]

/-- An append to a slice of the call's own, as one step of a region that draws its order. -/
theorem step_append_own {P : Program} {ops : Array Oper} {o : Oper} {a : Act} {w : World} {K : Act → World → Prop} {Q : Exit → Act → World → Prop} {E : Prop}
    (hg : o.guard = none) (s x : Operand) (t : TypeId) (hop : o.op = Op.call { callee := Callee.builtin Builtin.append, args := #[s, x], argTypes := #[t, t] })
    (base : Nat) (e : TypeId) (i : TypeInfo) (z : Value) (size bytes : Nat) (ht : P.underlying t = some (.slice e)) (hi : P.info? e = some i) (hz : i.zero = some z)
    (hsize : i.size = size) (hby : i.bytes = bytes) (hzs : z.cells.size = size) (hsz : 0 < size)
    (v : Value) (n : Nat) (xs : List Value) (hs : a.eval s = v) (hown : w.ownsRow base e size v n xs)
    (ad : Addr) (m c : Nat) (news : List Value) (hx : a.eval x = .slice (some ad) m c) (hl : news.length = m * size) (hnews : ∀ j u, news[j]? = some u → w.cell? (ad.add j) = some u) (h1 : ∀ u ∈ news, u.oneCell' = true)
    (h63 : n + m ≤ maxLen) (hbytes : (n + m) * bytes ≤ 140737488355328) (hbase : base ≤ w.heap.size)
    (h : ∀ v' w', w'.ownsRow base e size v' (n + m) (xs ++ news) → w.grownBy w' v.ownBlock → (v' = .slice none 0 0 ↔ v = .slice none 0 0 ∧ m = 0) → K (a.put o.dst v') w') :
    if Region.wanted o (yielded ops a.tmps) = true then Oper.wp P o a w K Q else E := by
  have hw : Region.wanted o (yielded ops a.tmps) = true := by simp [Region.wanted, hg]
  rw [if_pos hw]
  exact wp_append_own w s x t hop base e i z size bytes ht hi hz hsize hby hzs hsz v n xs hs hown ad m c news hx hl hnews h1 h63 hbytes hbase h

theorem own_ge {w : World} {base : Nat} {e : TypeId} {size n : Nat} {v : Value} {xs : List Value} (h : w.ownsRow base e size v n xs) : ∀ k, v.ownBlock = some k → base ≤ k := by
  intro k hk
  rcases h.2 with ⟨rfl, _⟩ | ⟨g, cap, cur, rfl, hg, _⟩
  · simp [Value.ownBlock] at hk
  · have : g = k := by simpa [Value.ownBlock] using hk
    omega
/-- One element more. -/
theorem own_step {w wr W w1 : World} {k : Nat} {g : Nat → Nat} {v v' : Value} (hown : wr.ownsRow w.heap.size 22 1 v k (cellsOf g k)) (hW : Below w.heap.size w W) (hg : W.grownBy w1 v.ownBlock)
    (h1 : w1.ownsRow w.heap.size 22 1 v' (k + 1) (cellsOf g k ++ [.float .f64 (g k)])) : Hid (w1.ownsRow w.heap.size 22 1 v' (k + 1) (cellsOf g (k + 1))) ∧ Below w.heap.size w w1 :=
  ⟨by rw [cellsOf_succ]; exact h1, hW.grown hg hW.size (own_ge hown)⟩
/-- What is owned reads as floats. -/
theorem own_rowF {w w1 : World} {k : Nat} {g : Nat → Nat} {v : Value} (h : w1.ownsRow w.heap.size 22 1 v k (cellsOf g k)) : ∃ A c, v = .slice A k c ∧ RowF w1 A k g := by
  by_cases hk : k = 0
  · subst hk
    rcases h.2 with ⟨rfl, _⟩ | ⟨g', cap, cur, rfl, _⟩
    · exact ⟨_, _, rfl, fun h => by omega⟩
    · exact ⟨_, _, rfl, fun h => by omega⟩
  · obtain ⟨g', cap, hv, _, hlt⟩ := h.form (by omega)
    refine ⟨some ⟨g', 0, none⟩, cap, hv, fun _ => ⟨g', 0, rfl, hlt, fun j hj => ?_⟩⟩
    have := h.cells (g := g') (by rw [hv]; rfl) j (.float .f64 (g j)) (cellsOf_get g k j hj)
    have e : (⟨g', 0, none⟩ : Addr).add j = ⟨g', 0 + j, none⟩ := by
      unfold Addr.add
      by_cases h0 : j = 0
      · subst h0; rfl
      · rw [if_neg h0]
    rw [e] at this; exact this

set_option maxRecDepth 100000 in
set_option maxHeartbeats 1000000 in
theorem refSlope_ok (A : Option Addr) (m c p : Nat) (f : Nat → Nat) (w : World) (h : ListIn w A (m + 2) f) (hp : p < 2 ^ 64) (hl : listB (m + 2) f = true) (hpr : prob p = true) :
    Calls Try.prog 34 #[.slice A (m + 2) c, .float .f64 p] w fun e w' => e = .returned (.tuple #[.float .f64 (slope f (m + 1) (absb p)), .int .i64 0]) ∧ Below w.heap.size w w' := by
  obtain ⟨h1, h2, _⟩ := listB_parts hl
  obtain ⟨b, off, rfl, hb, hc⟩ := h.row (by omega)
  have hvf := vals_fin h.wf hl
  have ok := ok_abs (m := m) (by omega) hp hpr
  have hd := fun k (hk : k ≤ m) => diff_ok (f := f) (k := k) (hvf k (by omega)) (hvf (k + 1) (by omega))
  obtain ⟨t1, t2⟩ := term_ok ok (B := 4 * 1267650600228229401496703205376) (by grind) (by grind) (fun k hk => (hd k hk).2)
  obtain ⟨av1, av2⟩ := avg_ok ok (fun k hk => (hd k hk).2)
  have hmul := fun ty W => run_float_arith (P := Try.prog) W .mul ty .f64 _ _ _ (slope_mul (m := m + 1) (by omega) av1 av2)
  have e1 : ((m + 1 : Nat) : Int) = (m : Int) + 2 - 1 := by omega
  have es : slope f (m + 1) (absb p) = fmul (ofI ((m + 1 : Nat) : Int)) (avg (diff f) m (absb p)) := by unfold slope; rw [if_neg (by omega), Nat.add_sub_cancel]
  rw [e1] at hmul es
  rw [es]
  have CL := Lib.hid (list_any (some ⟨b, off, none⟩) (m + 2) c f w h.row h.wf h.len)
  rw [hl] at CL
  have CP := Lib.hid (fun W => isProb_any2 p W)
  rw [hpr] at CP
  have CA := Lib.hid (fun W => abs_any p hp W)
  have CW := Lib.hid (fun W => refw_c m p W (by omega) hp hpr)
  rw [show (m : Int) = (m : Int) + 2 - 1 - 1 by omega] at CW
  have CS := Lib.hid (fun (W : World) C cc G hA hB => refsum_any C G (m + 1) cc (m + 1) (diff f) (wt m (absb p)) (term (diff f) m (absb p)) W hA hB (by omega) (fun k hk => t1 k (by omega)) (fun k hk => psum_adds (by grind) (by grind) t2 (by omega)))
  have HC := Lib.hid hc
  have HD := Lib.hid hd
  obtain ⟨i0, hi, hz0, hz1, hz2⟩ := info_parts Try.info22
  have HM := Lib.hid hmul
  clear hc h hl hpr hd t1 t2 ok hvf av1 av2 es e1 hmul
  have hc0 : ((m : Int) + 2 - 1 == 0) = false := by rw [beq_eq_false_iff_ne]; omega
  go_enter Try.func34, Try.ntmps34
  go_wp2_with (first | (go_at_call 66; refine CL.out.mono ?_; rintro e w' ⟨rfl, rfl⟩) | (go_at_call 62; refine (CP.out _).mono ?_; rintro e w' ⟨rfl, rfl⟩))
  go_loopw [7, 8] (fun v i wr => ∃ k : Nat, k ≤ m + 1 ∧ i = .int .i64 k ∧ Hid (wr.ownsRow w.heap.size 22 1 v k (cellsOf (diff f) k)) ∧ Below w.heap.size w wr) (fun _ i _ => m + 1 - (intOf i).toNat)
  case atStart => exact ⟨0, Nat.zero_le _, rfl, World.ownsRow_nil _ _ _ _, Below.refl _ _⟩
  case round =>
    obtain ⟨k, hk, rfl, hown, hbel⟩ := hrel
    by_cases hkm : k < m + 1
    · have c1 := (hbel.cell (p := ⟨b, off + k, none⟩) hb).trans (HC.out k (by omega))
      have c2 := (hbel.cell (p := ⟨b, off + (k + 1), none⟩) hb).trans (HC.out (k + 1) (by omega))
      have hs := fun ty W => run_float_arith (P := Try.prog) W .sub ty .f64 _ _ _ (HD.out k (by omega)).1
      have l1 : (k : Int) < (m : Int) + 2 := by omega
      have l2 : (k : Int) + 1 < (m : Int) + 2 := by omega
      have l3 : (k : Int) < (m : Int) + 2 - 1 := by omega
      have q1 : IntKind.i64.wrap ((k : Int) + 1) = (k : Int) + 1 := IntWalk.i64_in _ (by omega)
      have q2 : (0 : Int) ≤ (k : Int) + 1 := by omega
      have q3 : ((k : Int) + 1).toNat = k + 1 := by omega
      go_wp2
      go_region_law (refine step_append_own rfl (.tmp 28) (.tmp 39) 24 rfl w.heap.size 22 i0 (.float .f64 0) 1 8 Try.underlying24 hi hz0 hz1 hz2 rfl (by decide) _ k (cellsOf (diff f) k) rfl (hown.out.alloc _).drew ⟨wr.heap.size, 0, none⟩ 1 1 [.float .f64 (diff f k)] rfl rfl (cell_one_new _ _ _) (by simp [Value.oneCell']) (by unfold maxLen; omega) (by omega) (by have := hbel.size; simp; omega) ?_; intro v' w1 hown' hgrow _)
      all_goals
        have R := own_step hown.out ((hbel.alloc hbel.size _).drew) hgrow hown'
        clear hown' hgrow hown
        go_wp2
        go_roundw
        case rel => exact ⟨k + 1, by omega, by go_num, R.1, R.2⟩
        case measure => simp [intOf]; omega
    · have hkk : k = m + 1 := by omega
      subst hkk
      obtain ⟨C, cc, rfl, hR⟩ := own_rowF hown.out
      have HR := Lib.hid hR
      have ew : ((m + 1 : Nat) : Int) = (m : Int) + 2 - 1 := by omega
      clear hR hown
      go_wp2_with (first | (go_at_call 42; refine (CA.out _).mono ?_; rintro e w' ⟨rfl, rfl⟩) | (go_at_call 63; refine (CW.out _).mono ?_; rintro e w1 ⟨rfl, hrow, hb1⟩))
      have hbw : Below w.heap.size w w1 := hbel.trans (hb1.mono hbel.size)
      refine (CS.out w1 C cc (some ⟨wr.heap.size, 0, none⟩) (fun h0 => ?_) (fun _ => ⟨wr.heap.size, 0, rfl, hrow.lt, fun j hj => by rw [Nat.zero_add]; exact hrow.cell hj⟩)).mono ?_
      · obtain ⟨b3, off3, hC, hb3, hc3⟩ := HR.out h0
        exact ⟨b3, off3, hC, by have := hb1.size; omega, fun j hj => (hb1.cell (p := ⟨b3, off3 + j, none⟩) hb3).trans (hc3 j hj)⟩
      rintro e w' ⟨rfl, q, rfl⟩
      have ea : psum (term (diff f) m (absb p)) (m + 1) = avg (diff f) m (absb p) := rfl
      rw [ea]
      clear ea
      have hmul := HM.out
      go_wp2
      go_ret2
      exact ⟨rfl, hbw.trans ((Drawn.below ⟨q, rfl⟩ _))⟩
end Go.Proofs.Ytcgoicijbmhmpaa
