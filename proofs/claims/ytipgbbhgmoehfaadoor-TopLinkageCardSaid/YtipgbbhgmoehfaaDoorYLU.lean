import Derived.Laws.Bits64b
import Derived.Test.YtipgbbhgmoehfaaDoorYRA
import Derived.Test.YtipgbbhgmoehfaaDoorYLC
import Derived.Test.YtipgbbhgmoehfaaDoorYTZ
/-
  lift: Len, has, Up.
-/
namespace Go.Proofs.YtipgbbhgmoehfaaDoor
open Go.RowKit Go.Shelf
attribute [local go_sem] Oper.semAt_some
set_option linter.unusedSimpArgs false
set_option linter.unusedVariables false
set_option linter.unusedSectionVars false

theorem low_off : ∀ k m : Nat, (2 ^ k * (2 * m + 1)) &&& (2 ^ k * (2 * m + 1) - 1) = 2 ^ k * (2 * m + 1) - 2 ^ k
  | 0, m => by
    rw [Nat.pow_zero, Nat.one_mul, Nat.add_sub_cancel]
    apply Nat.eq_of_testBit_eq
    intro i
    rw [Nat.testBit_and]
    cases i with
    | zero => simp [Nat.testBit_zero]
    | succ i =>
      rw [Nat.testBit_succ, Nat.testBit_succ, show (2 * m + 1) / 2 = m by omega, show 2 * m / 2 = m by omega, Bool.and_self]
  | k + 1, m => by
    have ih := low_off k m
    have e : 2 ^ (k + 1) * (2 * m + 1) = 2 * (2 ^ k * (2 * m + 1)) := by rw [Nat.pow_succ, Nat.mul_comm (2 ^ k) 2, Nat.mul_assoc]
    obtain ⟨y, hy⟩ : ∃ y, 2 ^ k * (2 * m + 1) = y := ⟨_, rfl⟩
    have hy0 : 1 ≤ y := by rw [← hy]; exact Nat.mul_pos (Nat.pow_pos (by omega)) (by omega)
    rw [e, Nat.pow_succ]
    rw [hy] at ih ⊢
    have hle : 2 ^ k ≤ y := by rw [← hy]; exact Nat.le_mul_of_pos_right _ (by omega)
    rw [show 2 * y - 2 ^ k * 2 = 2 * (y - 2 ^ k) by omega, ← ih]
    apply Nat.eq_of_testBit_eq
    intro i
    rw [Nat.testBit_and]
    cases i with
    | zero => simp [Nat.testBit_zero]
    | succ i =>
      rw [Nat.testBit_succ, Nat.testBit_succ, Nat.testBit_succ, show 2 * y / 2 = y by omega, show (2 * y - 1) / 2 = y - 1 by omega, show 2 * (y &&& (y - 1)) / 2 = y &&& (y - 1) by omega, Nat.testBit_and]
theorem low_bit {x : Nat} (h0 : x ≠ 0) (h : x < 18446744073709551616) : x &&& (x - 1) = x - 2 ^ Lib.ctz 64 x ∧ 2 ^ Lib.ctz 64 x ≤ x := by
  obtain ⟨m, h1, h2⟩ := Lib.ctzFrom_spec 64 x (by omega) (by simpa using h)
  have e : Lib.ctz 64 x = Lib.ctzFrom 64 x := if_neg h0
  rw [e]
  obtain ⟨c, hc⟩ : ∃ c, Lib.ctzFrom 64 x = c := ⟨_, rfl⟩
  rw [hc] at h1 ⊢
  rw [h1]
  exact ⟨low_off c m, Nat.le_mul_of_pos_right _ (by omega)⟩
/-- The sum of powers of two. -/
def pw : List Nat → Nat
  | [] => 0
  | x :: l => 2 ^ x + pw l
theorem pw_snoc (x : Nat) : ∀ l, pw (l ++ [x]) = pw l + 2 ^ x
  | [] => by show 2 ^ x + 0 = 0 + 2 ^ x; omega
  | y :: l => by
    show 2 ^ y + pw (l ++ [x]) = 2 ^ y + pw l + 2 ^ x
    rw [pw_snoc x l]; omega

/-- The table of the de Bruijn product lies in its variable. -/
def Tab (W : World) : Prop := TabAt (Tryd.tzL_ren.g 1) Lib.deBruijn64tab W
theorem Tab.only {W W' : World} {gs : List Nat} (h : Tab W) (ho : Only gs W W') (hg : Tryd.tzL_ren.g 1 ∉ gs) : Tab W' := fun j hj => cells_keep ho (h j hj) hg
theorem Tab.keepG {W W' : World} {gs : List Nat} (h : Tab W) (ho : KeepG gs W W') (hg : Tryd.tzL_ren.g 1 ∉ gs) : Tab W' := fun j hj => by
  have hc := h j hj
  unfold World.cell? at hc ⊢
  split at hc
  · rename_i c t fz hh
    rw [ho _ _ _ _ hg hh]
    exact hc
  · cases hc

section
variable {W : World} {TB DP s : Nat} {J : Nat → Nat} {par : Nat → Int} (t : Table W TB DP s J 13 par)
include t
set_option maxRecDepth 100000 in
theorem LLen_any : Calls Tryd.prog 66 #[.pointer (some ⟨TB, 0, none⟩)] W fun e w' => e = .returned (.int .i64 s) ∧ w' = W := by
  have f0 := t.head.cellv (i := 0) (by omega)
  have f1 := t.head.cellv (i := 1) (by omega)
  replace f0 : W.cell? ⟨TB, 0, none⟩ = some (.bool true) := f0
  replace f1 : W.cell? ⟨TB, 1, none⟩ = some (.slice (some ⟨DP, 0, none⟩) s s) := f1
  clear t
  go_enter Tryd.func66, Tryd.ntmps66
  go_wp2_with fail
  go_ret
  exact ⟨rfl, rfl⟩
set_option maxRecDepth 100000 in
theorem Lhas_any (v : Nat) (hv : v < s) : Calls Tryd.prog 51 #[.pointer (some ⟨TB, 0, none⟩), .int .i64 v] W fun e w' => e = .returned (.bool true) ∧ w' = W := by
  have CL := Lib.hid (LLen_any t)
  have q1 : (v : Int) < (s : Int) := by omega
  have q2 : (0 : Int) ≤ (v : Int) := by omega
  clear t
  go_enter Tryd.func51, Tryd.ntmps51
  go_wp2_with fail
  refine CL.out.mono ?_
  rintro e w' ⟨rfl, rfl⟩
  go_wp2_with fail
  go_ret
  exact ⟨rfl, rfl⟩
end
set_option maxRecDepth 100000 in
theorem ones_any (k : Nat) (W : World) : Calls Tryd.prog 67 #[.int .i64 k] W fun e w' => e = .returned (.func (.func 78) #[] #[.pointer (some ⟨W.heap.size, 0, none⟩)]) ∧ W.alloc (.cells #[.int .i64 k] 3) = w' := by
  go_enter Tryd.func67, Tryd.ntmps67
  go_wp2_with fail
  go_ret
  exact ⟨rfl, rfl⟩
set_option maxRecDepth 100000 in
set_option maxHeartbeats 2000000 in
theorem ones1_in (m : Nat) (hm : 2 ≤ m) (k B : Nat) (gs : List Nat) (hB : B ∉ gs) (hg : Tryd.tzL_ren.g 1 ∉ gs) (hk : k < 9223372036854775808) (w : World) (hT : Tab w) (hb : w.heap[B]? = some (.cells #[.int .i64 k] 3 (0, 0))) :
    Gives m 78 #[.pointer (some ⟨B, 0, none⟩)] (fun x : Nat => #[.int .i64 x]) (fun pre x => pw pre + 2 ^ x ≤ k) (fun xs => pw xs = k) (KeepG gs) w := by
  intro l J W hO _ hY h0
  have hT0 := hT.only hO (by simp)
  have f0 := cell_of_heap (i := 0) ((hO.block _ (heap_lt hb) (by simp)).trans hb) rfl
  replace f0 : W.cell? ⟨B, 0, none⟩ = some (.int .i64 k) := f0
  have HT := Lib.hid hT0
  have HY := Lib.hid hY
  have q0 : IntKind.u64.wrap (k : Int) = k := by rw [IntKind.wrap_u64]; omega
  clear hT hb hO hY hT0
  refine callsIn_of_wp Tryd.func78 rfl trivial ?_ rfl
  simp only [Tryd.ntmps78, List.size_toArray, List.length_cons, List.length_nil, Nat.reduceAdd, Nat.reduceSub, Array.replicate_succ, Array.replicate_zero, List.push_toArray, List.append_toArray, List.nil_append, List.cons_append]
  gi_wp2
  clear f0
  gi_loopw [3] (fun i wr => ∃ (pre : List Nat) (left : Nat), i = .int .u64 left ∧ Hid (pw pre + left = k) ∧ Hid (J pre wr) ∧ Hid (KeepG gs W wr)) (fun i _ => (intOf i).toNat)
  case atStart => exact ⟨[], k, rfl, Lib.hid (by show 0 + k = k; omega), Lib.hid h0, Lib.hid (KeepG.refl _ _)⟩
  case round =>
    obtain ⟨pre, left, rfl, hs, hJs, hnx⟩ := hrel
    by_cases hlt : left = 0
    · subst hlt
      gi_wp2
      go_end0
      exact ⟨⟨_, rfl⟩, pre, by have := hs.out; omega, hJs.out⟩
    · have q1 : ((left : Int) != 0) = true := by simp; omega
      have hll : left ≤ k := by have := hs.out; omega
      obtain ⟨lb1, lb2⟩ := low_bit hlt (by omega)
      have CT := Lib.hid (callsIn_wide (n := m - 1).2 (Any7.bits_TrailingZeros Tryd.tzL left (by omega) wr (fun _ => HT.out.keepG hnx.out hg)))
      obtain ⟨x, hx⟩ : ∃ x, Lib.ctz 64 left = x := ⟨_, rfl⟩
      rw [hx] at lb1 lb2 CT
      have q2 : IntKind.u64.wrap ((left : Int) - 1) = ((left - 1 : Nat) : Int) := by rw [IntKind.wrap_u64]; omega
      have q3 : bits .and .u64 (left : Int) ((left - 1 : Nat) : Int) = ((left - 2 ^ x : Nat) : Int) := by rw [bits_and_u64_nat _ _ (by omega) (by omega), lb1]
      obtain ⟨fn, tmps, assign, body, hy, hR⟩ := HY.out _ x wr hJs.out (by have := hs.out; omega)
      have HR := Lib.hid hR
      have l2 : 1 ≤ m := by omega
      have l3 : 1 ≤ m - 1 := by omega
      have hx1 : 1 ≤ 2 ^ x := Nat.pow_pos (by omega)
      obtain ⟨y, hy2⟩ : ∃ y, 2 ^ x = y := ⟨_, rfl⟩
      have hps := pw_snoc x pre
      rw [hy2] at q3 lb2 hx1 hps
      have HQ := Lib.hid (And.intro lb2 (And.intro hx1 hps))
      clear hR hx lb1 lb2 hx1 hy2 hps
      gi_wp2
      refine ⟨trivial, CT.out.mono ?_⟩
      rintro e w' ⟨rfl, rfl⟩
      gi_wp2
      refine HR.out.mono ?_
      rintro e W3 ⟨rfl, hJ3, hk3⟩
      have HJ3 := Lib.hid (And.intro hJ3 hk3)
      clear hJ3 hk3
      gi_wp2
      go_roundw
      case rel => exact ⟨pre ++ [x], left - y, rfl, Lib.hid (by have := hs.out; have := HQ.out; omega), Lib.hid HJ3.out.1, Lib.hid (hnx.out.trans HJ3.out.2)⟩
      case measure => have := HQ.out; simp [intOf]; omega

/-- The v-th box of Up holds the ancestor that the exponents lead to. -/
def UpI (w0 : World) (B4 s v0 : Nat) (par : Nat → Int) (pre : List Nat) (W : World) : Prop :=
  Only [B4] w0 W ∧ ∃ y : Nat, W.heap[B4]? = some (.cells #[.int .i64 y] 3 (0, 0)) ∧ anc par (pw pre) v0 = (y : Int) ∧ y < s
theorem UpI.own {w0 : World} {B4 s v0 B : Nat} {par : Nat → Int} (hB : w0.heap.size ≤ B) (h4 : B4 < w0.heap.size) : OwnFrom B (UpI w0 B4 s v0 par) := by
  intro pre A C row ⟨hO, y, h1, h2, h3⟩ hg' hr
  have kb : ∀ k, k < w0.heap.size → C.heap[k]? = A.heap[k]? := fun k hk => hg'.block k (Nat.lt_of_lt_of_le hk hO.size) (fun e => by have := (hr k e.symm).1; omega)
  exact ⟨⟨hg'.os.trans hO.os, hg'.tape.trans hO.tape, hg'.output.trans hO.output, Nat.le_trans hO.size hg'.size, fun k hk hn => (kb k hk).trans (hO.block k hk hn)⟩, y, (kb B4 h4).trans h1, h2, h3⟩
set_option maxRecDepth 100000 in
set_option maxHeartbeats 4000000 in
theorem Up_any {w : World} {TB DP s : Nat} {J : Nat → Nat} {par : Nat → Int} (t : Table w TB DP s J 13 par) (hu : Up par s) (hs : s ≤ 8192) (hT : Tab w) (v k : Nat) (hv : v < s) (hk : k ≤ dep par s v) :
    Calls Tryd.prog 52 #[.pointer (some ⟨TB, 0, none⟩), .int .i64 v, .int .i64 k] w fun e w' => ∃ y : Nat, e = .returned (.tuple #[.int .i64 y, .bool true]) ∧ anc par k v = (y : Int) ∧ y < s ∧ Only [] w w' := by
  refine (callsIn_wide (n := 6)).1 ?_
  have hds : dep par s v < s := by have := dep_lt hu (s - v) v hv (Nat.le_refl _); omega
  have HT := Lib.hid t
  have HTab := Lib.hid hT
  have HJ := Lib.hid (show ∀ i, i < 13 → J i < w.heap.size from fun i hi => (t.jumps i hi).lt)
  have hTl := t.head.ltb
  have hgl : Tryd.tzL_ren.g 1 < w.heap.size := cell_lt' (hT 0 (by decide))
  clear hT
  refine callsIn_of_wp_marks Tryd.func52 rfl trivial ?_ rfl
  simp only [Tryd.ntmps52, List.size_toArray, List.length_cons, List.length_nil, Nat.reduceAdd, Nat.reduceSub, Array.replicate_succ, Array.replicate_zero, List.push_toArray, List.append_toArray, List.nil_append, List.cons_append]
  refine wpIn_wide.2 ?_
  go_upto_region 1 with (fail)
  obtain ⟨W1, hW1⟩ : ∃ W1, (w.alloc (.cells #[.pointer (some ⟨TB, 0, none⟩)] 52)).alloc (.cells #[.int .i64 v] 3) = W1 := ⟨_, rfl⟩
  rw [hW1]
  have k3 : W1.heap[w.heap.size]? = some (.cells #[.pointer (some ⟨TB, 0, none⟩)] 52 (0, 0)) := by
    rw [← hW1]
    exact (heap_alloc_old _ _ _ (by rw [World.size_alloc]; omega)).trans (heap_alloc_new w _)
  have k4 : W1.heap[w.heap.size + 1]? = some (.cells #[.int .i64 v] 3 (0, 0)) := by
    rw [← hW1]
    have := heap_alloc_new (w.alloc (.cells #[.pointer (some ⟨TB, 0, none⟩)] 52)) (.cells #[.int .i64 v] 3)
    rwa [World.size_alloc] at this
  have hO1 : Only [] w W1 := hW1 ▸ ((Only.refl [] w).alloc _).alloc _
  have hs1 : W1.heap.size = w.heap.size + 2 := by rw [← hW1, World.size_alloc, World.size_alloc]
  obtain ⟨B3, hB3⟩ : ∃ B3, w.heap.size = B3 := ⟨_, rfl⟩
  have HB3 := Lib.hid hB3
  have HO1 := Lib.hid hO1
  have ht1 := t.only hO1 (by simp) (by simp) (fun _ _ => by simp)
  have HT1 := Lib.hid ht1
  have c3 := cell_of_heap (i := 0) k3 rfl
  have c4 := cell_of_heap (i := 0) k4 rfl
  have f1 := ht1.head.cellv (i := 1) (by omega)
  have d1 := ht1.dep.cell hv
  have hD : DP < w.heap.size := t.dep.lt
  rw [hB3] at c3 c4 hTl hs1 k3 k4 hD hgl HJ ⊢
  replace c3 : W1.cell? ⟨B3, 0, none⟩ = some (.pointer (some ⟨TB, 0, none⟩)) := c3
  replace c4 : W1.cell? ⟨B3 + 1, 0, none⟩ = some (.int .i64 v) := c4
  replace f1 : W1.cell? ⟨TB, 1, none⟩ = some (.slice (some ⟨DP, 0, none⟩) s s) := f1
  have CH := Lib.hid (fun W (hO : Only [] W1 W) => Lhas_any (ht1.only hO (by simp) (by simp) (fun _ _ => by simp)) v hv)
  have q1 : ¬ ((k : Int) < 0) := by omega
  have q2 : ¬ (((dep par s v : Nat) : Int) < (k : Int)) := by omega
  obtain ⟨dv, hdv⟩ : ∃ dv, dep par s v = dv := ⟨_, rfl⟩
  rw [hdv] at q2 d1
  have HD := Lib.hid hdv
  have K3 := Lib.hid k3
  have K4 := Lib.hid k4
  have HLs := Lib.hid (And.intro hTl (And.intro hD (And.intro hs1 hgl)))
  clear hW1 hB3 hO1 ht1 k3 k4 t hdv hTl hD hs1 HT hgl
  go_big_quiet ((go_at_call 51; exact Calls.quiet_of_same (CH.out _ ((Only.refl _ _).drewN _))))
  go_wp2_with fail
  obtain ⟨W2, hW2⟩ : ∃ W2, W1.drewN nq = W2 := ⟨_, rfl⟩
  have hO2 : Only [] W1 W2 := hW2 ▸ (Only.refl [] W1).drewN nq
  rw [hW2]
  refine (ones_any k _).mono ?_
  rintro e w3 ⟨rfl, hw3⟩
  have hB : w3.heap[W2.heap.size]? = some (.cells #[.int .i64 k] 3 (0, 0)) := hw3 ▸ heap_alloc_new W2 _
  have hO3 : Only [] W2 w3 := hw3 ▸ (Only.refl [] W2).alloc _
  have hs3 : w3.heap.size = W2.heap.size + 1 := by rw [← hw3, World.size_alloc]
  have hsz := hO2.size
  obtain ⟨B, hBe⟩ : ∃ B, W2.heap.size = B := ⟨_, rfl⟩
  have hO13 := hO2.trans hO3
  have HT3 := Lib.hid (HT1.out.only hO13 (by simp) (by simp) (fun _ _ => by simp))
  have HK3 := Lib.hid ((hO13.block _ (heap_lt K3.out) (by simp)).trans K3.out)
  have HK4 := Lib.hid ((hO13.block _ (heap_lt K4.out) (by simp)).trans K4.out)
  have HO3 := Lib.hid (HO1.out.trans hO13)
  have HTab3 := Lib.hid (HTab.out.only HO3.out (by simp))
  obtain ⟨hTl, hD, hs1, hgl⟩ := HLs.out
  rw [hBe] at hB hs3 hsz ⊢
  have HBB := Lib.hid hB
  clear hW2 hO2 hw3 hB hO3 hBe hO13 HT1 K3 K4 CH c3 c4 f1 d1 q1 q2 HO1 HTab HLs
  go_wp2_with fail
  refine wpIn_wide.1 (range_allowed (n := 6) (by omega) (gf := 78) (lb := #[.pointer (some ⟨B, 0, none⟩)]) rfl (enters_of Tryd.func78 (by kernel_rfl) rfl)
    (hseq := ones1_in 5 (by omega) k B [B3 + 1] (by simp; omega) (by simp; omega) (by omega) w3 HTab3.out HBB.out) (fun _ => rfl) KeepG.trans (fun W l o o' h hc => KeepG.put o' h hc)
    (UpI w3 (B3 + 1) s v par) (UpI.own (Nat.le_refl _) (by omega)) ⟨Only.refl _ _, v, HK4.out, rfl, hv⟩ ?aa ?assign ?body ?done)
  case assign =>
    intro l x W K hK
    gi_wp2
    exact hK
  case body =>
    rintro l pre x W ⟨hO, y, h1, h2, h3⟩ hal
    have hx : x < 13 := by
      by_cases e : x < 13
      · exact e
      · have := Nat.pow_le_pow_right (show 0 < 2 by omega) (show 13 ≤ x by omega)
        omega
    obtain ⟨z, ez, hz, _⟩ := (anc_dep hu hv (pw pre + 2 ^ x)).1 (by omega)
    have e2 : ljmp par x y = (z : Int) := by rw [ljmp_anc hu h3, ← anc_go hu hv h2, ez]
    have ht := HT3.out.only hO (by simp; omega) (by simp; omega) (fun i hi => by have := (HT3.out.jumps i hi).lt; have := HJ.out i hi; simp; omega)
    have d3 := cell_of_heap (i := 0) ((hO.block _ (heap_lt HK3.out) (by simp)).trans HK3.out) rfl
    have d4 := cell_of_heap (i := 0) h1 rfl
    have y4 := frozen_of_heap (i := 0) h1
    have c5 := ht.head.cellv (i := 2 + x) (by omega)
    rw [tv_at hx] at c5
    have c6 := (ht.jumps x hx).cell h3
    rw [e2] at c6
    replace d3 : W.cell? ⟨B3, 0, none⟩ = some (.pointer (some ⟨TB, 0, none⟩)) := d3
    replace d4 : W.cell? ⟨B3 + 1, 0, none⟩ = some (.int .i64 y) := d4
    have HN := Lib.hid (show KeepsOthers W ((W.setCell ⟨B3 + 1, 0, none⟩ (.int .i64 (z : Int))).drew) ∧ KeepG [B3 + 1] W ((W.setCell ⟨B3 + 1, 0, none⟩ (.int .i64 (z : Int))).drew) ∧ UpI w3 (B3 + 1) s v par (pre ++ [x]) ((W.setCell ⟨B3 + 1, 0, none⟩ (.int .i64 (z : Int))).drew) by
      have hOs : Only [B3 + 1] W ((W.setCell ⟨B3 + 1, 0, none⟩ (.int .i64 (z : Int))).drew) := ((Only.refl [B3 + 1] W).setCell (g := B3 + 1) (i := 0) (by simp) _).drewN 1
      exact ⟨KeepsOthers.trans (KeepsOthers.setCell W ⟨B3 + 1, 0, none⟩ (.int .i64 (z : Int))) (KeepsOthers.of_only ((Only.refl [] _).drewN 1)), KeepG.only hOs, hO.trans hOs, z, heap_setCell_same W _ 0 _ 3 (.int .i64 (z : Int)) h1, by rw [pw_snoc]; exact ez, hz⟩)
    have q3 : (x : Int) < 13 := by omega
    clear hO h1 h2 ht e2 ez HT3 HK3 HK4 HTab3 HBB HD
    --[
    gi_wp2_with fail
    gi_region
    all_goals
      gi_wp2_with fail
      exact HN.out
    --]
  case done =>
    rintro D xs W hD hxs ⟨hO, y, h1, h2, h3⟩ hK
    rw [hxs] at h2
    have d4 := cell_of_heap (i := 0) h1 rfl
    replace d4 : W.cell? ⟨B3 + 1, 0, none⟩ = some (.int .i64 y) := d4
    have HO := Lib.hid hO
    have HK := Lib.hid hK
    clear hO h1 hK HT3 HK3 HK4 HTab3 HBB HD HJ
    go_wp2_with fail
    have hDl := heap_lt HK.out
    have hgs := HO.out.size
    have hB3 := HB3.out
    have hgs2 := HO3.out.size
    refine ⟨by simp, .inl ⟨_, _, rfl, run_takeDeferred HK.out, ?_⟩⟩
    refine ⟨_, (by simp [results, Tryd.results52, go_sem] : _), ⟨y, rfl, h2, h3, ?_⟩⟩
    have hOw := HO3.out.to HO.out fun i hi hl => by simp at hi; omega
    exact ⟨hOw.os, hOw.tape, hOw.output, by rw [World.putObj_size]; exact hOw.size, fun k hk hn => (World.putObj_heap_other (by omega)).trans (hOw.block k hk hn)⟩

end Go.Proofs.YtipgbbhgmoehfaaDoor
