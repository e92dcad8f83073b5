import Derived.RangeFuncFrom
import Derived.RangeFuncKeeps
import Derived.RangeFuncBound
import Derived.RangeFuncCalls
import Derived.RangeFuncLeaves
import Derived.Shelf.Abstract
import Derived.Shelf.RegionOpen
import Derived.OwnWalkIn
import Derived.TacticsInMore
import Derived.LoopNIn
import Derived.LoopIn
import Derived.Test.YtipgbbhgmoehfaaYTN
import Derived.Test.YtipgbbhgmoehfaaYTQ
import Derived.Test.YtipgbbhgmoehfaaYG
import Derived.Test.YtipgbbhgmoehfaaYQ
/-
  recon: Least, Check, down, Labels at a built tree.
-/
namespace Go.Proofs.Ytipgbbhgmoehfaa
open Go.RowKit Go.Shelf
attribute [local go_sem] Oper.semAt_some
set_option linter.unusedSimpArgs false
set_option linter.unusedVariables false
set_option linter.unusedSectionVars false

theorem row_of_ownc {w : World} {base n : Nat} {t : TypeId} {v : Value} {f : Nat → Value} {xs : List Value} (h : w.ownsRow base t 1 v n xs) (hv : v ≠ .slice none 0 0) (hx : ∀ i, i < n → xs[i]? = some (f i)) :
    ∃ g c, v = .slice (some ⟨g, 0, none⟩) n c ∧ base ≤ g ∧ RowGe w g t n f ∧ n ≤ c := by
  obtain ⟨hl, h | ⟨g, cap, cur, e, hg, hh, hn, _, hs, ht⟩⟩ := h
  · exact absurd h.1 hv
  · refine ⟨g, cap, e, hg, ⟨cur, hh, fun i hi => ?_⟩, hn⟩
    have := hx i hi
    rw [← ht, List.getElem?_take] at this
    rw [if_pos (by omega)] at this
    simpa using this

set_option maxRecDepth 100000 in
set_option maxHeartbeats 2000000 in
theorem Clone_intc (g n c : Nat) (f : Nat → Nat) (w : World) (h : Row w g n f) (hn : n ≤ 65536) : Calls Try.prog 53 #[.slice (some ⟨g, 0, none⟩) n c] w fun e w' => ∃ g' c', e = .returned (.slice (some ⟨g', 0, none⟩) n c') ∧ Row w' g' n f ∧ w.heap.size ≤ g' ∧ Only [] w w' ∧ n ≤ c' := by
  obtain ⟨i0, hi, hz0, hz1, hz2⟩ := infoI
  have q : ∀ (w : World) (a : Option Addr) (n c n' c' : Nat), (binOp .eql 30 (.slice a n c) (.slice none n' c')).run Try.prog w = .ok (.bool a.isNone) w := fun w a n c n' c' => Lib.run_eql_slice_nil w _ _ a n c n' c' Try.underlying30
  have u : ∀ w, Sem.run Try.prog (underlying 30) w = .ok (TypeDesc.slice 3) w := run_underlying Try.underlying30
  have HR := Lib.hid h
  clear h
  go_enter Try.func53, Try.ntmps53
  go_wp2_with (at_builtin; refine wpList_append_own _ rfl _ _ 30 rfl w.heap.size 3 i0 (.int .i64 0) 1 8 Try.underlying30 hi hz0 hz1 hz2 rfl (by decide) _ _ _ rfl (World.ownsRow_made w #[] 0 (Nat.le_refl _) (Nat.zero_le _) rfl) ⟨g, 0, none⟩ n c ((List.range n).map fun i => .int .i64 (f i)) rfl ?qc1 ?qc2 ?qc3 ?qc4 ?qc5 ?qc6 ?_)
  case qc1 => simp
  case qc2 =>
    intro j u hj
    have hjn : j < n := by
      have := (List.getElem?_eq_some_iff.1 hj).1
      simpa using this
    rw [Addr.add_lit]
    refine Lib.cell?_alloc_some _ ?_
    rw [Nat.zero_add, HR.out.cell hjn]
    have e : ((List.range n).map fun i => Value.int .i64 (f i : Int))[j]? = some (Value.int .i64 (f j : Int)) := by simp [hjn]
    rw [e] at hj
    exact hj
  case qc3 => intro u hu; obtain ⟨x, _, rfl⟩ := List.mem_map.1 hu; rfl
  case qc4 => unfold maxLen; omega
  case qc5 => omega
  case qc6 => simp
  intro v' w1 hown hgrow hnil
  go_wp2
  go_ret
  obtain ⟨g', c', hv, hg', hr, hnc⟩ := row_of_ownc (f := fun i => Value.int .i64 (f i : Int)) (n := n) (by simpa using hown) (by simpa using hnil) (fun i hi => by simp [hi])
  refine ⟨g', c', by rw [hv]; rfl, hr, hg', ?_, hnc⟩
  exact only_of_below' (((Below.refl _ w).alloc (Nat.le_refl _) _).grown hgrow (by simp) (by intro k hk; simp [Value.ownBlock] at hk; omega))


section
variable {W : World} {n c : Nat} {p q : Nat → Nat} {h : Nat → Int} {s L R P H Z : Nat} (t : TIn W n c p q h s L R P H Z)
include t
set_option maxRecDepth 100000 in
set_option maxHeartbeats 2000000 in
theorem Least_any : Calls Try.prog 46 #[treeV n s L R P H Z] W fun e w' => ∃ LS, e = .returned (.slice (some ⟨LS, 0, none⟩) s s) ∧ RowZ w' 3 LS s (fun y => ((tleast n p q y : Nat) : Int)) ∧ W.heap.size ≤ LS ∧ Only [] W w' := by
  have CL := Lib.hid (fun W1 (hO : Only [] W W1) => leasts_any (t.only hO))
  unfold treeV treeCells at *
  clear t
  go_enter Try.func46, Try.ntmps46
  go_wp2_with fail
  refine (CL.out _ ((Only.refl [] W).alloc _)).mono ?_
  rintro e w1 ⟨LS, rfl, hR, hL, hO⟩
  have HR := Lib.hid hR
  have HO := Lib.hid (((Only.refl [] W).alloc _).trans hO)
  rw [World.size_alloc] at hL
  clear hR hO
  go_wp2_with fail
  go_ret
  exact ⟨LS, rfl, HR.out, by omega, HO.out⟩
set_option maxRecDepth 100000 in
set_option maxHeartbeats 2000000 in
theorem TCheck_any : Calls Try.prog 47 #[treeV n s L R P H Z] W fun e w' => e = .returned (.int .i64 0) ∧ Only [] W w' := by
  have CL := Lib.hid (fun W1 (hO : Only [] W W1) => leasts_any (t.only hO))
  unfold treeV treeCells at *
  clear t
  go_enter Try.func47, Try.ntmps47
  go_wp2_with fail
  refine (CL.out _ ((Only.refl [] W).alloc _)).mono ?_
  rintro e w1 ⟨LS, rfl, hR, hL, hO⟩
  have HO := Lib.hid (((Only.refl [] W).alloc _).trans hO)
  clear hR hO
  go_wp2_with fail
  go_ret
  exact ⟨rfl, HO.out⟩
end
set_option maxRecDepth 100000 in
set_option maxHeartbeats 2000000 in
theorem down_any (n s L R P H Z : Nat) (W : World) : Calls Try.prog 76 #[treeV n s L R P H Z] W fun e w' => e = .returned (.func (.func 112) #[] #[.pointer (some ⟨W.heap.size, 0, none⟩)]) ∧ W.alloc (.cells (treeCells n s L R P H Z) 50) = w' := by
  unfold treeV treeCells
  go_enter Try.func76, Try.ntmps76
  go_wp2_with fail
  go_ret
  exact ⟨rfl, rfl⟩

/-- The nodes from the last one on. -/
def dnTo (s : Nat) : Nat → List { x : Nat // x < s }
  | 0 => []
  | k + 1 => dnTo s k ++ (if h : s - 1 - k < s then [⟨s - 1 - k, h⟩] else [])
theorem dnTo_len {s : Nat} : ∀ {k}, k ≤ s → (dnTo s k).length = k
  | 0, _ => rfl
  | k + 1, h => by
    unfold dnTo
    rw [dif_pos (by omega), List.length_append, dnTo_len (by omega)]
    rfl
theorem dnTo_succ {s k : Nat} (h : s - 1 - k < s) : dnTo s (k + 1) = dnTo s k ++ [⟨s - 1 - k, h⟩] := by
  show dnTo s k ++ _ = _
  rw [dif_pos h]
/-- All blocks of cells but this one. -/
def KeepX (g : Nat) (W W' : World) : Prop := ∀ k cs t fz, k ≠ g → W.heap[k]? = some (.cells cs t fz) → W'.heap[k]? = some (.cells cs t fz)
theorem KeepX.refl (g : Nat) (W : World) : KeepX g W W := fun _ _ _ _ _ h => h
theorem KeepX.trans {g : Nat} {A B C : World} (h : KeepX g A B) (k : KeepX g B C) : KeepX g A C := fun i cs t fz hi hA => k i cs t fz hi (h i cs t fz hi hA)
theorem KeepX.put {g : Nat} {W : World} {l : Nat} {o : Obj} (o' : Obj) (h : W.heap[l]? = some o) (hc : o.isCells = false) : KeepX g W (W.putObj l o') := by
  intro k cs t fz _ hk
  have hne : k ≠ l := by
    rintro rfl
    rw [h] at hk
    cases hk
    simp [Obj.isCells] at hc
  rw [World.putObj_heap_other hne]
  exact hk
theorem KeepX.only {g : Nat} {W W' : World} (h : Only [g] W W') : KeepX g W W' := fun k cs t fz hk hW => (h.block k (heap_lt hW) (by simpa using hk)).trans hW
theorem KeepX.row {g : Nat} {W W' : World} {t : TypeId} {b n : Nat} {f : Nat → Int} (h : KeepX g W W') (hr : RowZ W t b n f) (hb : b ≠ g) : RowZ W' t b n f := by
  obtain ⟨cs, hc, r⟩ := hr
  exact ⟨cs, h _ _ _ _ hb hc, r⟩
set_option maxRecDepth 100000 in
set_option maxHeartbeats 2000000 in
theorem down1_in (m : Nat) (hm : 2 ≤ m) (l Tb n s L R P H Z g : Nat) (par : Nat → Int) (hb1 : Tb ≠ g) (hb2 : P ≠ g) (hs : s ≤ 8192) (J Jx : List { x : Nat // x < s } → World → Prop)
    (hY : ∀ pre x W, J pre W → pre.length < s → YieldAt Fence.wide (m - 1) Try.prog l #[.int .i64 (x.1 : Nat), .int .i64 (par x.1)] W fun e W' =>
      (e = .returned (.bool true) ∧ J (pre ++ [x]) W' ∧ KeepX g W W') ∨ (e = .returned (.bool false) ∧ Jx (pre ++ [x]) W'))
    (W : World) (hT : W.heap[Tb]? = some (.cells (treeCells n s L R P H Z) 50 (0, 0))) (hP : RowZ W 3 P s par) (h0 : J [] W) :
    CallsIn Fence.wide m Try.prog 112 #[.func (.yield l) #[] #[], .pointer (some ⟨Tb, 0, none⟩)] W fun e W' => (∃ v, e = .returned v) ∧
      ((∃ ys, ys = dnTo s s ∧ J ys W') ∨ (∃ pre, (∃ k, k ≤ s ∧ pre = dnTo s k) ∧ Jx pre W')) := by
  have f3 := cell_of_heap (i := 3) hT rfl
  replace f3 : W.cell? ⟨Tb, 3, none⟩ = some (.slice (some ⟨P, 0, none⟩) s s) := f3
  have HP := Lib.hid hP
  have HT := Lib.hid hT
  have HY := Lib.hid hY
  clear hT hP hY
  refine callsIn_of_wp Try.func112 rfl trivial ?_ rfl
  simp only [Try.ntmps112, List.size_toArray, List.length_cons, List.length_nil, Nat.reduceAdd, Nat.reduceSub, Array.replicate_succ, Array.replicate_zero, List.push_toArray, List.append_toArray, List.nil_append, List.cons_append]
  gi_wp2
  clear f3
  gi_loopw [3] (fun i wr => ∃ k : Nat, k ≤ s ∧ i = .int .i64 ((s : Int) - 1 - (k : Int)) ∧ Hid (J (dnTo s k) wr) ∧ Hid (KeepX g W wr)) (fun i _ => (intOf i + 1).toNat)
  case atStart => exact ⟨0, Nat.zero_le _, by simp, Lib.hid h0, Lib.hid (KeepX.refl _ _)⟩
  case round =>
    obtain ⟨k, hk, rfl, hJs, hnx⟩ := hrel
    by_cases hlt : k < s
    · obtain ⟨x, hx⟩ : ∃ x : Nat, (s : Int) - 1 - (k : Int) = (x : Int) := ⟨s - 1 - k, by omega⟩
      have hxs : x < s := by omega
      have c3 := cell_of_heap (i := 3) (hnx.out _ _ _ _ hb1 HT.out) rfl
      replace c3 : wr.cell? ⟨Tb, 3, none⟩ = some (.slice (some ⟨P, 0, none⟩) s s) := c3
      have c4 := (hnx.out.row HP.out hb2).cell hxs
      rw [hx]
      have q1 : ¬ ((x : Int) < 0) := by omega
      have hdn := Lib.hid (show dnTo s (k + 1) = dnTo s k ++ [⟨x, hxs⟩] by
        have e : s - 1 - k = x := by omega
        subst e
        exact dnTo_succ hxs)
      obtain ⟨fn, tmps, assign, body, hy, hR⟩ := HY.out _ ⟨x, hxs⟩ wr hJs.out (by rw [dnTo_len hk]; exact hlt)
      have HR := Lib.hid hR
      have l2 : 1 ≤ m := by omega
      have l3 : 1 ≤ m - 1 := by omega
      have hx' : (x : Int) - 1 = (s : Int) - 1 - ((k + 1 : Nat) : Int) := by omega
      have HX := Lib.hid hx'
      obtain ⟨pv, hpv⟩ : ∃ pv, par x = pv := ⟨_, rfl⟩
      simp only [hpv] at hy c4
      clear hR hx hx' hpv
      gi_wp2
      refine HR.out.mono ?_
      rintro e W3 (⟨rfl, hJ3, hk3⟩ | ⟨rfl, hJx3⟩)
      · have HJ3 := Lib.hid (And.intro hJ3 hk3)
        clear hJ3 hk3
        gi_wp2
        go_roundw
        case rel => exact ⟨k + 1, by omega, by rw [HX.out], Lib.hid (by rw [hdn.out]; exact HJ3.out.1), Lib.hid (hnx.out.trans HJ3.out.2)⟩
        case measure => simp [intOf] <;> omega
      · have HJ3 := Lib.hid hJx3
        clear hJx3
        gi_wp2
        refine bodyPost_ret (results_none rfl _ _ _) rfl ?_
        exact ⟨⟨_, rfl⟩, .inr ⟨_, ⟨k + 1, by omega, hdn.out.symm⟩, HJ3.out⟩⟩
    · obtain rfl : k = s := by omega
      rw [show (k : Int) - 1 - (k : Int) = -1 by omega]
      gi_wp2
      go_end0
      exact ⟨⟨_, rfl⟩, .inl ⟨_, rfl, hJs.out⟩⟩

/-- The labels row after k nodes. -/
def flab (n s : Nat) (p q : Nat → Nat) (kk k : Nat) (x : Nat) : Nat := if s - k ≤ x then tfin n p q kk x else tleast n p q x
theorem flab_other {n s : Nat} {p q : Nat → Nat} {kk k y : Nat} (hk : k < s) (hy : y = s - 1 - k) {x : Nat} (hx : x ≠ y) : flab n s p q kk (k + 1) x = flab n s p q kk k x := by
  unfold flab
  by_cases h : s - k ≤ x
  · rw [if_pos h, if_pos (by omega)]
  · rw [if_neg h, if_neg (by omega)]
theorem flab_old {n s : Nat} {p q : Nat → Nat} {kk k y : Nat} (hk : k < s) (hy : y = s - 1 - k) : flab n s p q kk k y = tleast n p q y := if_neg (by omega)
theorem flab_new {n s : Nat} {p q : Nat → Nat} {kk k y : Nat} (hk : k < s) (hy : y = s - 1 - k) : flab n s p q kk (k + 1) y = tfin n p q kk y := if_pos (by omega)
theorem flab_up {n s : Nat} {p q : Nat → Nat} {kk k y z : Nat} (hk : k < s) (hy : y = s - 1 - k) (hz : y < z) : flab n s p q kk k z = tfin n p q kk z := if_pos (by omega)
theorem dn_last {s : Nat} {pre : List { x : Nat // x < s }} {x : { x : Nat // x < s }} (hl : pre.length < s) (e : pre ++ [x] = dnTo s (pre ++ [x]).length) : pre = dnTo s pre.length ∧ x.1 = s - 1 - pre.length := by
  rw [List.length_append, List.length_singleton, dnTo_succ (by omega)] at e
  obtain ⟨e1, e2⟩ := List.append_inj e (by rw [dnTo_len (by omega)])
  refine ⟨e1, ?_⟩
  injection e2 with e2
  rw [e2]
set_option maxRecDepth 100000 in
set_option maxHeartbeats 4000000 in
theorem RLabels_any {w : World} {n c : Nat} {p q : Nat → Nat} {h : Nat → Int} {s L R P H Z : Nat} (t : TIn w n c p q h s L R P H Z) (th : Int) (kk : Nat) (hk : kk ≤ c) (h1 : ∀ i, i < kk → h i ≤ th) (h2 : ∀ i, kk ≤ i → i < c → th < h i) :
    Calls Try.prog 50 #[treeV n s L R P H Z, .int .i64 th] w fun e w' => ∃ g cp, e = .returned (.tuple #[.slice (some ⟨g, 0, none⟩) n cp, .int .i64 0]) ∧ Row w' g n (tlab p q kk) ∧ w.heap.size ≤ g ∧ Only [] w w' := by
  refine (callsIn_wide (n := 6)).1 ?_
  have CL := Lib.hid (fun W1 (hO : Only [] w W1) => leasts_any (t.only hO))
  have HT := Lib.hid t
  obtain ⟨b1, b2, b3, b4⟩ := t.bounds
  have l1 := t.rP.lt
  have l2 := t.rH.lt
  unfold treeV treeCells at *
  clear t
  refine callsIn_of_wp_marks Try.func50 rfl trivial ?_ rfl
  simp only [Try.ntmps50, List.size_toArray, List.length_cons, List.length_nil, Nat.reduceAdd, Nat.reduceSub, Array.replicate_succ, Array.replicate_zero, List.push_toArray, List.append_toArray, List.nil_append, List.cons_append]
  have hdp : ∀ m : Nat, (Fence.wide.depth.isSome = true → 1 ≤ m) := fun m h => by cases h
  gi_wp2_with fail
  refine ⟨trivial, callsIn_wide.2 ((CL.out _ (((Only.refl [] w).alloc _).alloc _)).mono ?_)⟩
  rintro e w1 ⟨LS, rfl, hR, hL, hO⟩
  have hO1 := (((Only.refl [] w).alloc (.cells (treeCells n s L R P H Z) 50)).alloc (.cells #[.int .i64 th] 2)).trans hO
  have b0 := (hO.block w.heap.size (by simp only [World.size_alloc]; omega) (by simp)).trans ((heap_alloc_old _ _ _ (by simp)).trans (heap_alloc_new w _))
  have b1' : w1.heap[w.heap.size + 1]? = some (.cells #[.int .i64 th] 2 (0, 0)) := (hO.block (w.heap.size + 1) (by simp only [World.size_alloc]; omega) (by simp)).trans (by have := heap_alloc_new (w.alloc (.cells (treeCells n s L R P H Z) 50)) (.cells #[.int .i64 th] 2); rw [World.size_alloc] at this; exact this)
  simp only [World.size_alloc] at hL
  have HR := Lib.hid hR
  have hLl := hR.lt
  have CC := Lib.hid (fun W (hO : Only [] w1 W) => Clone_intc LS s s (tleast n p q) W (RowZ.only hR hO (by simp)) (by omega))
  have HO1 := Lib.hid hO1
  have HB0 := Lib.hid b0
  have HB1 := Lib.hid b1'
  clear hO hR hO1 b0 b1' CL
  gi_wp2_with fail
  refine ⟨trivial, callsIn_wide.2 ((CC.out _ (Only.refl _ _)).mono ?_)⟩
  rintro e w2 ⟨g, cg, rfl, hR, hg, hO, hcg⟩
  have HO2 := Lib.hid (HO1.out.trans hO)
  have HR2 := Lib.hid hR
  have hgl := hR.lt
  have hB0 := (hO.block w.heap.size (heap_lt HB0.out) (by simp)).trans HB0.out
  have hB1 := (hO.block (w.heap.size + 1) (heap_lt HB1.out) (by simp)).trans HB1.out
  obtain ⟨TB, hTB⟩ : ∃ TB, w.heap.size = TB := ⟨_, rfl⟩
  rw [hTB] at hB0 hB1 hL l1 l2 ⊢
  have tcell : ∀ W : World, W.heap[TB]? = some (.cells (treeCells n s L R P H Z) 50 (0, 0)) → W.cell? ⟨TB, 0, none⟩ = some (.int .i64 n) ∧ W.cell? ⟨TB, 1, none⟩ = some (.slice (some ⟨L, 0, none⟩) s s) ∧ W.cell? ⟨TB, 2, none⟩ = some (.slice (some ⟨R, 0, none⟩) s s) ∧ W.cell? ⟨TB, 3, none⟩ = some (.slice (some ⟨P, 0, none⟩) s s) ∧
      W.cell? ⟨TB, 4, none⟩ = some (.slice (some ⟨H, 0, none⟩) s s) ∧ W.cell? ⟨TB, 5, none⟩ = some (.slice (some ⟨Z, 0, none⟩) s s) := fun W h => ⟨cell_of_heap (i := 0) h rfl, cell_of_heap (i := 1) h rfl, cell_of_heap (i := 2) h rfl, cell_of_heap (i := 3) h rfl, cell_of_heap (i := 4) h rfl, cell_of_heap (i := 5) h rfl⟩
  have HTC := Lib.hid tcell
  obtain ⟨f0, f1, f2, f3, f4, f5⟩ := tcell _ hB0
  have hb8 : TB < w2.heap.size := heap_lt hB0
  have hb9 : TB + 1 < w2.heap.size := heap_lt hB1
  have HBB := Lib.hid (And.intro hB0 hB1)
  clear hO hR HO1 HB0 HB1 CC HR hB0 hB1 tcell
  gi_wp2_with fail
  obtain ⟨w3, hw3⟩ : ∃ w3, w2.alloc (.cells #[.slice (some ⟨g, 0, none⟩) s cg] 30) = w3 := ⟨_, rfl⟩
  have hB8 : w3.heap[w2.heap.size]? = some (.cells #[.slice (some ⟨g, 0, none⟩) s cg] 30 (0, 0)) := hw3 ▸ heap_alloc_new w2 _
  have hO3 : Only [] w2 w3 := hw3 ▸ (Only.refl [] w2).alloc _
  have hs3 : w3.heap.size = w2.heap.size + 1 := by rw [← hw3, World.size_alloc]
  rw [hw3]
  have CD := Lib.hid (down_any n s L R P H Z w3)
  unfold treeV treeCells at CD
  refine ⟨trivial, callsIn_wide.2 (CD.out.mono ?_)⟩
  rintro e w4 ⟨rfl, hw4⟩
  have hT2 : w4.heap[w3.heap.size]? = some (.cells (treeCells n s L R P H Z) 50 (0, 0)) := hw4 ▸ heap_alloc_new w3 _
  have hO4 : Only [] w3 w4 := hw4 ▸ (Only.refl [] w3).alloc _
  have hs4 : w4.heap.size = w3.heap.size + 1 := by rw [← hw4, World.size_alloc]
  have hk8 := (hO4.block _ (by omega) (by simp)).trans hB8
  have hkT := ((hO3.trans hO4).block TB (by omega) (by simp)).trans HBB.out.1
  have hkU := ((hO3.trans hO4).block (TB + 1) (by omega) (by simp)).trans HBB.out.2
  have HT4 := Lib.hid (HT.out.only ((HO2.out.trans hO3).trans hO4))
  have HR4 := Lib.hid (HR2.out.only (hO3.trans hO4) (by simp))
  have HO4 := Lib.hid ((HO2.out.trans hO3).trans hO4)
  obtain ⟨B8, hB8e⟩ : ∃ B8, w2.heap.size = B8 := ⟨_, rfl⟩
  obtain ⟨B9, hB9e⟩ : ∃ B9, w3.heap.size = B9 := ⟨_, rfl⟩
  rw [hB8e] at hk8 hs3 hb8 hb9 hgl ⊢
  rw [hB9e] at hT2 hs4 hs3 ⊢
  obtain rfl : B9 = B8 + 1 := by omega
  have HKE := Lib.hid (And.intro hk8 (And.intro hkT (And.intro hkU hT2)))
  have hsz := HO2.out.size
  clear hB8 hO3 hO4 hw3 hw4 hk8 hkT hkU hT2 CD HBB HR2 HO2 HT f0 f1 f2 f3 f4 f5
  have hmix : Try.prog.follows .mixedOrders = true := by kernel_rfl
  gi_wp2_with fail
  refine wpIn_rangeFunc_ownF rfl (by omega) (gf := 112) (lb := #[.pointer (some ⟨B8 + 1, 0, none⟩)]) rfl trivial (enters_of Try.func112 (by kernel_rfl) rfl)
    (encs := fun x : { x : Nat // x < s } => #[.int .i64 (x.1 : Nat), .int .i64 (tpar n p q c x.1)]) (Kp := KeepX g) (S := fun ys => ys = dnTo s s) (Sp := fun pre => ∃ k, k ≤ s ∧ pre = dnTo s k) (N := s) (w0 := w4)
    ?seq KeepX.trans (fun W l o o' _ h hc _ => KeepX.put o' h hc) (Below.refl _ _) (fun _ => rfl)
    (fun pre W => Only [g] w4 W ∧ ∃ f : Nat → Nat, Row W g s f ∧ (pre = dnTo s pre.length → ∀ x, x < s → f x = flab n s p q kk pre.length x)) (fun _ _ _ => False) ?own ?ownx ?start ?fr ?assign ?body ?done ?stop
  case seq =>
    intro l J Jx W hW _ _ hY hJ0
    have hk9 : W.heap[B8 + 1]? = some (.cells (treeCells n s L R P H Z) 50 (0, 0)) := (hW.block (B8 + 1) (by omega)).trans HKE.out.2.2.2
    have hP9 : RowZ W 3 P s (tpar n p q c) := HT4.out.rP.same (hW.block P (by omega))
    exact down1_in _ (by omega) l (B8 + 1) n s L R P H Z g (tpar n p q c) (by omega) (by omega) (by omega) J Jx hY W hk9 hP9 hJ0
  case own =>
    intro sl A C row hs hg' hr
    obtain ⟨hO, f, hR, hp⟩ := hs
    have kb : ∀ k, k < w4.heap.size → C.heap[k]? = A.heap[k]? := fun k hk => hg'.block k (Nat.lt_of_lt_of_le hk hO.size) (fun e => by have := (hr k e.symm).1; omega)
    exact ⟨⟨hg'.os.trans hO.os, hg'.tape.trans hO.tape, hg'.output.trans hO.output, Nat.le_trans hO.size hg'.size, fun k hk hn => (kb k hk).trans (hO.block k hk hn)⟩, f, hR.same (kb g (by omega)), hp⟩
  case ownx => exact fun _ _ _ _ _ hs _ _ => hs
  case start =>
    refine ⟨Only.refl _ _, _, HR4.out, fun _ x hx => ?_⟩
    unfold flab
    rw [if_neg (by simp; omega)]
  case assign =>
    intro l x W K hK
    gi_wp2
    exact hK
  case body =>
    as_aux_lemma =>
      rintro l pre ⟨y, hy⟩ W ⟨hO, f, hR, hp⟩ hlt
      have k8 := cell_of_heap (i := 0) ((hO.block B8 (by omega) (by simp; omega)).trans HKE.out.1) rfl
      replace k8 : W.cell? ⟨B8, 0, none⟩ = some (.slice (some ⟨g, 0, none⟩) s cg) := k8
      obtain ⟨_, _, _, _, f4, _⟩ := HTC.out W ((hO.block TB (by omega) (by simp; omega)).trans HKE.out.2.1)
      have fth := cell_of_heap (i := 0) ((hO.block (TB + 1) (by omega) (by simp; omega)).trans HKE.out.2.2.1) rfl
      replace fth : W.cell? ⟨TB + 1, 0, none⟩ = some (.int .i64 th) := fth
      have HO := Lib.hid hO
      have HRW := Lib.hid hR
      have HPW := Lib.hid hp
      have hrH := HT4.out.rH.only hO (by simp; omega)
      have hs4' := HT4.out.hs
      have Hnx := Lib.hid (fun (e : pre ++ [(⟨y, hy⟩ : { x : Nat // x < s })] = dnTo s (pre ++ [(⟨y, hy⟩ : { x : Nat // x < s })]).length) => dn_last hlt e)
      dsimp only
      rcases HT4.out.ok.mrg.par_up y with e | ⟨j, hj, e, hyj⟩
      · have HE := Lib.hid e
        rw [e]
        clear hO hR hp hrH e
        gi_wp2_with fail
        refine wpIn_quiet_round (by kernel_rfl) hmix (by kernel_rfl) ?_
        repeat (gi_big_quiet_step (fail))
        refine wpQuietIn_nil ?_
        intro _ hw'
        obtain ⟨nq, hw''⟩ := hw'
        subst hw''
        gi_wp2_with fail
        refine ⟨KeepsOthers.of_only ((Only.refl [] W).drewN nq), fun k cs t fz _ hk => hk, HO.out.drewN nq, f, HRW.out.same rfl, fun e2 x hx => ?_⟩
        obtain ⟨e3, e4⟩ := Hnx.out e2
        rw [List.length_append, List.length_singleton, HPW.out e3 x hx]
        by_cases ex : x = y
        · rw [ex, flab_old hlt e4, flab_new hlt e4, HT4.out.ok.mrg.fin_root hk HE.out]
        · rw [flab_other hlt e4 ex]
      · obtain ⟨z, hz⟩ : ∃ z, n + j = z := ⟨_, rfl⟩
        have hzs : z < s := by omega
        have d4 := hrH.cell hzs
        rw [show thei n h c z = h j by unfold thei; rw [if_pos (by omega), show z - n = j by omega]] at d4
        obtain ⟨hj', hhj⟩ : ∃ hj', h j = hj' := ⟨_, rfl⟩
        rw [hhj] at d4
        have HE := Lib.hid e
        rw [e, hz]
        have q1 : (0 : Int) ≤ (z : Int) := by omega
        by_cases hjk : j < kk
        · have hle : hj' ≤ th := by rw [← hhj]; exact h1 j hjk
          clear hO hR hp hrH e hhj
          gi_wp2_with fail
          refine wpIn_quiet_round (by kernel_rfl) hmix (by kernel_rfl) ?_
          repeat (gi_big_quiet_step (fail))
          refine wpQuietIn_nil ?_
          intro _ hw'
          obtain ⟨nq, hw''⟩ := hw'
          subst hw''
          gi_wp2_with fail
          obtain ⟨W9, hW9⟩ : ∃ W9, W.drewN nq = W9 := ⟨_, rfl⟩
          have hO9 : Only [] W W9 := hW9 ▸ (Only.refl [] W).drewN nq
          have hR9 := HRW.out.only hO9 (by simp)
          have HO9 := Lib.hid (HO.out.trans (hO9.mono (by simp)))
          have k9 := cells_keep hO9 k8 (by simp)
          have cz := hR9.cell hzs
          have cy := hR9.cell hy
          have zy := hR9.frozen y
          have HK9 := Lib.hid hO9
          have HR9 := Lib.hid hR9
          obtain ⟨vz, hvz⟩ : ∃ vz, f z = vz := ⟨_, rfl⟩
          obtain ⟨vy, hvy⟩ : ∃ vy, f y = vy := ⟨_, rfl⟩
          rw [hvz] at cz
          rw [hvy] at cy
          have HVZ := Lib.hid hvz
          have hB8g : ¬ B8 = g := by omega
          rw [hW9]
          have HN := Lib.hid (show KeepsOthers W ((W9.setCell ⟨g, y, none⟩ (.int .i64 (vz : Int))).drew) ∧ KeepX g W ((W9.setCell ⟨g, y, none⟩ (.int .i64 (vz : Int))).drew) ∧ Only [g] w4 ((W9.setCell ⟨g, y, none⟩ (.int .i64 (vz : Int))).drew) ∧
              ∃ f' : Nat → Nat, Row ((W9.setCell ⟨g, y, none⟩ (.int .i64 (vz : Int))).drew) g s f' ∧ (pre ++ [(⟨y, hy⟩ : { x : Nat // x < s })] = dnTo s (pre ++ [(⟨y, hy⟩ : { x : Nat // x < s })]).length → ∀ x, x < s → f' x = flab n s p q kk (pre ++ [(⟨y, hy⟩ : { x : Nat // x < s })]).length x) from by
            have hOs : Only [g] W9 ((W9.setCell ⟨g, y, none⟩ (.int .i64 (vz : Int))).drew) := ((Only.refl [g] W9).setCell (g := g) (i := y) (by simp) _).drewN 1
            refine ⟨KeepsOthers.trans (KeepsOthers.of_only HK9.out) (KeepsOthers.trans (KeepsOthers.setCell W9 ⟨g, y, none⟩ (.int .i64 (vz : Int))) (KeepsOthers.of_only ((Only.refl [] _).drewN 1))), KeepX.trans (KeepX.only (HK9.out.mono (by simp))) (KeepX.only hOs), HO9.out.trans hOs, put f y vz, (HR9.out.put y vz).same rfl, fun e2 x hx => ?_⟩
            obtain ⟨e3, e4⟩ := Hnx.out e2
            rw [List.length_append, List.length_singleton]
            by_cases ex : x = y
            · rw [ex, put_same, flab_new hlt e4, ← HVZ.out, HPW.out e3 z hzs, flab_up hlt e4 (by omega), HT4.out.ok.mrg.fin_early hk HE.out hjk, hz]
            · rw [put_other _ _ ex, flab_other hlt e4 ex, HPW.out e3 x hx])
          clear hW9 hO9 hR9 k8 f4 fth hvz hvy d4 hle q1
          gi_region
          all_goals
            gi_wp2_with fail
            exact HN.out
        · have hle : th < hj' := by rw [← hhj]; exact h2 j (by omega) hj
          have hle2 : ¬ hj' ≤ th := by omega
          clear hO hR hp hrH e hhj
          gi_wp2_with fail
          refine wpIn_quiet_round (by kernel_rfl) hmix (by kernel_rfl) ?_
          repeat (gi_big_quiet_step (fail))
          refine wpQuietIn_nil ?_
          intro _ hw'
          obtain ⟨nq, hw''⟩ := hw'
          subst hw''
          gi_wp2_with fail
          refine ⟨KeepsOthers.of_only ((Only.refl [] W).drewN nq), fun k cs t fz _ hk => hk, HO.out.drewN nq, f, HRW.out.same rfl, fun e2 x hx => ?_⟩
          obtain ⟨e3, e4⟩ := Hnx.out e2
          rw [List.length_append, List.length_singleton, HPW.out e3 x hx]
          by_cases ex : x = y
          · rw [ex, flab_old hlt e4, flab_new hlt e4, HT4.out.ok.mrg.fin_late hk HE.out (by omega)]
          · rw [flab_other hlt e4 ex]
  case done =>
    rintro D ys W hD rfl ⟨hO, f, hR, hp⟩ hK
    have k8 := cell_of_heap (i := 0) ((hO.block B8 (by omega) (by simp; omega)).trans HKE.out.1) rfl
    replace k8 : W.cell? ⟨B8, 0, none⟩ = some (.slice (some ⟨g, 0, none⟩) s cg) := k8
    obtain ⟨f0, _, _, _, _, _⟩ := HTC.out W ((hO.block TB (by omega) (by simp; omega)).trans HKE.out.2.1)
    have hpre : Row W g n f := by
      obtain ⟨cs, hc, r⟩ := hR
      exact ⟨cs, hc, fun i hi => r i (by omega)⟩
    have CC := Lib.hid (Clone_int g n cg f W hpre (by omega))
    have HO := Lib.hid hO
    have HK := Lib.hid hK
    have hp' := hp (by rw [dnTo_len (Nat.le_refl s)])
    have HP := Lib.hid (fun x (hx : x < n) => show f x = tlab p q kk x by
      rw [hp' x (by omega), dnTo_len (Nat.le_refl s)]
      unfold flab
      rw [if_pos (by omega), tfin_leaf hx])
    clear hO hR hp hp' hK hpre
    gi_wp2_with fail
    refine ⟨trivial, callsIn_wide.2 (CC.out.mono ?_)⟩
    rintro e w5 ⟨g5, c5, rfl, hR5, hg5, hO5⟩
    have HR5 := Lib.hid (RowGe.congr hR5 (u := fun i => .int .i64 ((tlab p q kk i : Nat) : Int)) fun i hi => by rw [HP.out i hi])
    have HK5 := Lib.hid ((hO5.block D (heap_lt HK.out) (by simp)).trans HK.out)
    have hgs := HO.out.size
    have HO5 := Lib.hid ((HO4.out.to HO.out fun i hi hl => by simp at hi; omega).trans hO5)
    clear hR5 hO5 CC
    gi_wp2_with fail
    have hDl := heap_lt HK.out
    refine ⟨by simp, .inl ⟨_, _, rfl, run_takeDeferred HK5.out, ?_⟩⟩
    refine ⟨_, (by simp [results, Try.results50, go_sem] : _), ⟨g5, c5, rfl, Row.same HR5.out (World.putObj_heap_other (by omega)), by omega, ?_⟩⟩
    exact ⟨HO5.out.os, HO5.out.tape, HO5.out.output, by rw [World.putObj_size]; exact HO5.out.size, fun k hk hn => (World.putObj_heap_other (by omega)).trans (HO5.out.block k hk hn)⟩
  case stop =>
    rintro D c pre W _ _ h _
    exact h.elim

end Go.Proofs.Ytipgbbhgmoehfaa
