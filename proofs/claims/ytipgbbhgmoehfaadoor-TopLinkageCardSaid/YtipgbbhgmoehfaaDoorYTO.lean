import Derived.RangeFuncFrom
import Derived.RangeFuncKeeps
import Derived.RangeFuncBound
import Derived.RangeFuncCalls
import Derived.RangeFuncLeaves
import Derived.Shelf.Abstract
import Derived.Shelf.RegionOpen
import Derived.OwnWalkIn
import Derived.TacticsInMore
import Derived.LoopNIn
import Derived.LoopIn
import Derived.Test.YtipgbbhgmoehfaaDoorYTN
import Derived.Test.YtipgbbhgmoehfaaDoorYTQ
import Derived.Test.YtipgbbhgmoehfaaDoorYG
import Derived.Test.YtipgbbhgmoehfaaDoorZ6
/-
  recon: Least, Check, down, Labels at a built tree.
-/
namespace Go.Proofs.YtipgbbhgmoehfaaDoor
open Go.RowKit Go.Shelf
attribute [local go_sem] Oper.semAt_some
set_option linter.unusedSimpArgs false
set_option linter.unusedVariables false
set_option linter.unusedSectionVars false

theorem row_of_ownc {w : World} {base n : Nat} {t : TypeId} {v : Value} {f : Nat → Value} {xs : List Value} (h : w.ownsRow base t 1 v n xs) (hv : v ≠ .slice none 0 0) (hx : ∀ i, i < n → xs[i]? = some (f i)) :
    ∃ g c, v = .slice (some ⟨g, 0, none⟩) n c ∧ base ≤ g ∧ RowGe w g t n f ∧ n ≤ c := by
  obtain ⟨hl, h | ⟨g, cap, cur, e, hg, hh, hn, _, hs, ht⟩⟩ := h
  · exact absurd h.1 hv
  · refine ⟨g, cap, e, hg, ⟨cur, hh, fun i hi => ?_⟩, hn⟩
    have := hx i hi
    rw [← ht, List.getElem?_take] at this
    rw [if_pos (by omega)] at this
    simpa using this

set_option maxRecDepth 100000 in
set_option maxHeartbeats 2000000 in
theorem Clone_intc (g n c : Nat) (f : Nat → Nat) (w : World) (h : Row w g n f) (hn : n ≤ 65536) : Calls Tryd.prog 60 #[.slice (some ⟨g, 0, none⟩) n c] w fun e w' => ∃ g' c', e = .returned (.slice (some ⟨g', 0, none⟩) n c') ∧ Row w' g' n f ∧ w.heap.size ≤ g' ∧ Only [] w w' ∧ n ≤ c' := by
  obtain ⟨i0, hi, hz0, hz1, hz2⟩ := infoI
  have q : ∀ (w : World) (a : Option Addr) (n c n' c' : Nat), (binOp .eql 31 (.slice a n c) (.slice none n' c')).run Tryd.prog w = .ok (.bool a.isNone) w := fun w a n c n' c' => Lib.run_eql_slice_nil w _ _ a n c n' c' Tryd.underlying31
  have u : ∀ w, Sem.run Tryd.prog (underlying 31) w = .ok (TypeDesc.slice 3) w := run_underlying Tryd.underlying31
  have HR := Lib.hid h
  clear h
  go_enter Tryd.func60, Tryd.ntmps60
  go_wp2_with (at_builtin; refine wpList_append_own _ rfl _ _ 31 rfl w.heap.size 3 i0 (.int .i64 0) 1 8 Tryd.underlying31 hi hz0 hz1 hz2 rfl (by decide) _ _ _ rfl (World.ownsRow_made w #[] 0 (Nat.le_refl _) (Nat.zero_le _) rfl) ⟨g, 0, none⟩ n c ((List.range n).map fun i => .int .i64 (f i)) rfl ?qc1 ?qc2 ?qc3 ?qc4 ?qc5 ?qc6 ?_)
  case qc1 => simp
  case qc2 =>
    intro j u hj
    have hjn : j < n := by
      have := (List.getElem?_eq_some_iff.1 hj).1
      simpa using this
    rw [Addr.add_lit]
    refine Lib.cell?_alloc_some _ ?_
    rw [Nat.zero_add, HR.out.cell hjn]
    have e : ((List.range n).map fun i => Value.int .i64 (f i : Int))[j]? = some (Value.int .i64 (f j : Int)) := by simp [hjn]
    rw [e] at hj
    exact hj
  case qc3 => intro u hu; obtain ⟨x, _, rfl⟩ := List.mem_map.1 hu; rfl
  case qc4 => unfold maxLen; omega
  case qc5 => omega
  case qc6 => simp
  intro v' w1 hown hgrow hnil
  go_wp2
  go_ret
  obtain ⟨g', c', hv, hg', hr, hnc⟩ := row_of_ownc (f := fun i => Value.int .i64 (f i : Int)) (n := n) (by simpa using hown) (by simpa using hnil) (fun i hi => by simp [hi])
  refine ⟨g', c', by rw [hv]; rfl, hr, hg', ?_, hnc⟩
  exact only_of_below' (((Below.refl _ w).alloc (Nat.le_refl _) _).grown hgrow (by simp) (by intro k hk; simp [Value.ownBlock] at hk; omega))


section
variable {W : World} {n c : Nat} {p q : Nat → Nat} {h : Nat → Int} {s L R P H Z : Nat} (t : TIn W n c p q h s L R P H Z)
include t
set_option maxRecDepth 100000 in
set_option maxHeartbeats 2000000 in
theorem Least_any : Calls Tryd.prog 23 #[treeV n s L R P H Z] W fun e w' => ∃ LS, e = .returned (.slice (some ⟨LS, 0, none⟩) s s) ∧ RowZ w' 3 LS s (fun y => ((tleast n p q y : Nat) : Int)) ∧ W.heap.size ≤ LS ∧ Only [] W w' := by
  have CL := Lib.hid (fun W1 (hO : Only [] W W1) => leasts_any (t.only hO))
  unfold treeV treeCells at *
  clear t
  go_enter Tryd.func23, Tryd.ntmps23
  go_wp2_with fail
  refine (CL.out _ ((Only.refl [] W).alloc _)).mono ?_
  rintro e w1 ⟨LS, rfl, hR, hL, hO⟩
  have HR := Lib.hid hR
  have HO := Lib.hid (((Only.refl [] W).alloc _).trans hO)
  rw [World.size_alloc] at hL
  clear hR hO
  go_wp2_with fail
  go_ret
  exact ⟨LS, rfl, HR.out, by omega, HO.out⟩
set_option maxRecDepth 100000 in
set_option maxHeartbeats 2000000 in
theorem TCheck_any : Calls Tryd.prog 22 #[treeV n s L R P H Z] W fun e w' => e = .returned (.int .i64 0) ∧ Only [] W w' := by
  have CL := Lib.hid (fun W1 (hO : Only [] W W1) => leasts_any (t.only hO))
  unfold treeV treeCells at *
  clear t
  go_enter Tryd.func22, Tryd.ntmps22
  go_wp2_with fail
  refine (CL.out _ ((Only.refl [] W).alloc _)).mono ?_
  rintro e w1 ⟨LS, rfl, hR, hL, hO⟩
  have HO := Lib.hid (((Only.refl [] W).alloc _).trans hO)
  clear hR hO
  go_wp2_with fail
  go_ret
  exact ⟨rfl, HO.out⟩
end
/-- The nodes from the last one on. -/
def dnTo (s : Nat) : Nat → List { x : Nat // x < s }
  | 0 => []
  | k + 1 => dnTo s k ++ (if h : s - 1 - k < s then [⟨s - 1 - k, h⟩] else [])
theorem dnTo_len {s : Nat} : ∀ {k}, k ≤ s → (dnTo s k).length = k
  | 0, _ => rfl
  | k + 1, h => by
    unfold dnTo
    rw [dif_pos (by omega), List.length_append, dnTo_len (by omega)]
    rfl
theorem dnTo_succ {s k : Nat} (h : s - 1 - k < s) : dnTo s (k + 1) = dnTo s k ++ [⟨s - 1 - k, h⟩] := by
  show dnTo s k ++ _ = _
  rw [dif_pos h]
/-- All blocks of cells but this one. -/
def KeepX (g : Nat) (W W' : World) : Prop := ∀ k cs t fz, k ≠ g → W.heap[k]? = some (.cells cs t fz) → W'.heap[k]? = some (.cells cs t fz)
theorem KeepX.refl (g : Nat) (W : World) : KeepX g W W := fun _ _ _ _ _ h => h
theorem KeepX.trans {g : Nat} {A B C : World} (h : KeepX g A B) (k : KeepX g B C) : KeepX g A C := fun i cs t fz hi hA => k i cs t fz hi (h i cs t fz hi hA)
theorem KeepX.put {g : Nat} {W : World} {l : Nat} {o : Obj} (o' : Obj) (h : W.heap[l]? = some o) (hc : o.isCells = false) : KeepX g W (W.putObj l o') := by
  intro k cs t fz _ hk
  have hne : k ≠ l := by
    rintro rfl
    rw [h] at hk
    cases hk
    simp [Obj.isCells] at hc
  rw [World.putObj_heap_other hne]
  exact hk
theorem KeepX.only {g : Nat} {W W' : World} (h : Only [g] W W') : KeepX g W W' := fun k cs t fz hk hW => (h.block k (heap_lt hW) (by simpa using hk)).trans hW
theorem KeepX.row {g : Nat} {W W' : World} {t : TypeId} {b n : Nat} {f : Nat → Int} (h : KeepX g W W') (hr : RowZ W t b n f) (hb : b ≠ g) : RowZ W' t b n f := by
  obtain ⟨cs, hc, r⟩ := hr
  exact ⟨cs, h _ _ _ _ hb hc, r⟩
/-- The labels row after k nodes. -/
def flab (n s : Nat) (p q : Nat → Nat) (kk k : Nat) (x : Nat) : Nat := if s - k ≤ x then tfin n p q kk x else tleast n p q x
theorem flab_other {n s : Nat} {p q : Nat → Nat} {kk k y : Nat} (hk : k < s) (hy : y = s - 1 - k) {x : Nat} (hx : x ≠ y) : flab n s p q kk (k + 1) x = flab n s p q kk k x := by
  unfold flab
  by_cases h : s - k ≤ x
  · rw [if_pos h, if_pos (by omega)]
  · rw [if_neg h, if_neg (by omega)]
theorem flab_old {n s : Nat} {p q : Nat → Nat} {kk k y : Nat} (hk : k < s) (hy : y = s - 1 - k) : flab n s p q kk k y = tleast n p q y := if_neg (by omega)
theorem flab_new {n s : Nat} {p q : Nat → Nat} {kk k y : Nat} (hk : k < s) (hy : y = s - 1 - k) : flab n s p q kk (k + 1) y = tfin n p q kk y := if_pos (by omega)
theorem flab_up {n s : Nat} {p q : Nat → Nat} {kk k y z : Nat} (hk : k < s) (hy : y = s - 1 - k) (hz : y < z) : flab n s p q kk k z = tfin n p q kk z := if_pos (by omega)
theorem dn_last {s : Nat} {pre : List { x : Nat // x < s }} {x : { x : Nat // x < s }} (hl : pre.length < s) (e : pre ++ [x] = dnTo s (pre ++ [x]).length) : pre = dnTo s pre.length ∧ x.1 = s - 1 - pre.length := by
  rw [List.length_append, List.length_singleton, dnTo_succ (by omega)] at e
  obtain ⟨e1, e2⟩ := List.append_inj e (by rw [dnTo_len (by omega)])
  refine ⟨e1, ?_⟩
  injection e2 with e2
  rw [e2]
end Go.Proofs.YtipgbbhgmoehfaaDoor
