import Derived.StillTailTactics
import Derived.Maps.AppendAt
import Derived.Test.YtipgbbhgmoehfaaYE1
import Derived.Test.YtipgbbhgmoehfaaYU2
/-
  Chapter 27: the law's helper picked.
-/
namespace Go.Proofs.Ytipgbbhgmoehfaa
open Go.RowKit
attribute [local go_sem] Oper.semAt_some
set_option linter.unusedSimpArgs false
set_option linter.unusedSectionVars false

def intsL (f : Nat → Int) (n : Nat) : List Value := (List.range n).map fun i => .int .i64 (f i)
theorem intsL_succ (f : Nat → Int) (n : Nat) : intsL f (n + 1) = intsL f n ++ [.int .i64 (f n)] := by
  unfold intsL; rw [List.range_succ, List.map_append]; rfl
theorem intsL_len (f : Nat → Int) (n : Nat) : (intsL f n).length = n := by simp [intsL]
theorem intsL_at (f : Nat → Int) {n j : Nat} (h : j < n) : (intsL f n)[j]? = some (.int .i64 (f j)) := by simp [intsL, h]
theorem intsL_congr {f g : Nat → Int} {n : Nat} (h : ∀ j, j < n → f j = g j) : intsL f n = intsL g n := by
  unfold intsL
  exact List.map_congr_left fun j hj => by rw [h j (List.mem_range.1 hj)]
theorem intsL_upd (f : Nat → Int) (n : Nat) (y : Int) : intsL (upd f n y) (n + 1) = intsL f n ++ [.int .i64 y] := by
  rw [intsL_succ, upd_at, intsL_congr fun j hj => upd_lt hj]
/-- One number less. -/
def del (f : Nat → Int) (k : Nat) : Nat → Int := fun j => if j < k then f j else f (j + 1)
theorem del_list (f : Nat → Int) {k q : Nat} (hk : k < q) : intsL (del f k) (q - 1) = (intsL f q).take k ++ (intsL f q).drop (k + 1) := by
  apply List.ext_getElem?
  intro j
  by_cases hj : j < q - 1
  · rw [intsL_at _ hj]
    unfold del
    by_cases hjk : j < k
    · rw [if_pos hjk, List.getElem?_append_left (by simp [intsL]; omega), List.getElem?_take, if_pos hjk, intsL_at _ (by omega)]
    · rw [if_neg hjk, List.getElem?_append_right (by simp [intsL]; omega), List.getElem?_drop]
      have e : (List.take k (intsL f q)).length = k := by simp [intsL]; omega
      rw [e, show k + 1 + (j - k) = j + 1 by omega, intsL_at _ (by omega)]
  · rw [List.getElem?_eq_none (by simp [intsL]; omega), List.getElem?_eq_none (by simp [intsL]; omega)]
/-- The lists that picking keeps. -/
structure PickI (w : World) (m q r : Nat) (L O : Nat → Int) (vl vo : Value) (W : World) : Prop where
  left : W.ownsRow w.heap.size 3 1 vl q (intsL L q)
  out : W.ownsRow w.heap.size 3 1 vo r (intsL O r)
  apart : ∀ g, vl.ownBlock = some g → vo.ownBlock ≠ some g
  lin : ∀ i, i < q → 0 ≤ L i ∧ L i < m
  ld : ∀ i, i < q → ∀ k, k < i → L k ≠ L i
  oin : ∀ i, i < r → 0 ≤ O i ∧ O i < m
  od : ∀ i, i < r → ∀ k, k < i → O k ≠ O i
  sep : ∀ i, i < q → ∀ j, j < r → L i ≠ O j
  bel : Below w.heap.size w W
section
variable {w : World} {m q r : Nat} {L O : Nat → Int} {vl vo : Value} {W : World}
theorem PickI.only (h : PickI w m q r L O vl vo W) {W' : World} (k : Only [] W W') : PickI w m q r L O vl vo W' :=
  ⟨(KeepC.of_only (b := 0) k).owns h.left, (KeepC.of_only (b := 0) k).owns h.out, h.apart, h.lin, h.ld, h.oin, h.od, h.sep, h.bel.trans (k.toBelow.mono h.bel.size)⟩
/-- The next one is taken: it lies in both lists for a moment. -/
theorem PickI.add (h : PickI w m q r L O vl vo W) {k : Nat} {tmp : Obj} {v' : Value} {w1 : World} (hown : w1.ownsRow w.heap.size 3 1 v' (r + 1) (intsL O r ++ [.int .i64 (L k)])) (hg : (W.alloc tmp).grownBy w1 vo.ownBlock) (hat : v'.ownBlock = vo.ownBlock ∨ v'.ownBlock = some (W.alloc tmp).heap.size) :
    w1.ownsRow w.heap.size 3 1 vl q (intsL L q) ∧ w1.ownsRow w.heap.size 3 1 v' (r + 1) (intsL (upd O r (L k)) (r + 1)) ∧ (∀ g, vl.ownBlock = some g → v'.ownBlock ≠ some g) ∧ Below w.heap.size w w1 := by
  refine ⟨(h.left.alloc tmp).kept hg ?_, by rw [intsL_upd]; exact hown, fun g hv => ?_, below_append h.bel h.out hg⟩
  · cases hv : vl.ownBlock with
    | none => exact .inl rfl
    | some g => exact .inr fun e => h.apart g hv e.symm
  · rcases hat with e | e
    · rw [e]; exact h.apart g hv
    · rw [e]
      have := (h.left.lt g hv).2
      intro h2
      cases h2
      rw [World.size_alloc] at this
      omega
/-- .. and is taken out of the other list. -/
theorem PickI.cut (h : PickI w m q r L O vl vo W) {k : Nat} (hk : k < q) {v' : Value} {w2 : World} {vl' : Value} (h2 : w2.ownsRow w.heap.size 3 1 vl' (q - 1) (intsL (del L k) (q - 1))) (ho : w2.ownsRow w.heap.size 3 1 v' (r + 1) (intsL (upd O r (L k)) (r + 1))) (ha : ∀ g, vl'.ownBlock = some g → v'.ownBlock ≠ some g) (hb : Below w.heap.size w w2) :
    PickI w m (q - 1) (r + 1) (del L k) (upd O r (L k)) vl' v' w2 := by
  have dl : ∀ i, i < q - 1 → ∃ j, j < q ∧ j ≠ k ∧ del L k i = L j ∧ (j = i ∧ i < k ∨ j = i + 1 ∧ k ≤ i) := fun i hi => by
    unfold del
    by_cases hik : i < k
    · exact ⟨i, by omega, by omega, if_pos hik, .inl ⟨rfl, hik⟩⟩
    · exact ⟨i + 1, by omega, by omega, if_neg hik, .inr ⟨rfl, by omega⟩⟩
  have ne : ∀ a b, a < q → b < q → a ≠ b → L a ≠ L b := fun a b hq1 hq2 hab => by
    rcases Nat.lt_or_gt_of_ne hab with hl | hl
    · exact h.ld b hq2 a hl
    · exact fun e => h.ld a hq1 b hl e.symm
  refine ⟨h2, ho, ha, fun i hi => ?_, fun i hi j hj => ?_, fun i hi => ?_, fun i hi j hj => ?_, fun i hi j hj => ?_, hb⟩
  · obtain ⟨a, a1, _, e, _⟩ := dl i hi
    rw [e]; exact h.lin a a1
  · obtain ⟨a, a1, _, e, ea⟩ := dl i hi
    obtain ⟨b, b1, _, e2, eb⟩ := dl j (by omega)
    rw [e, e2]
    exact ne b a b1 a1 (by omega)
  · rcases Nat.lt_or_eq_of_le (Nat.le_of_lt_succ hi) with hl | rfl
    · rw [upd_lt hl]; exact h.oin i hl
    · rw [upd_at]; exact h.lin k hk
  · rcases Nat.lt_or_eq_of_le (Nat.le_of_lt_succ hi) with hl | rfl
    · rw [upd_lt hl, upd_lt (by omega)]; exact h.od i hl j hj
    · rw [upd_at, upd_lt hj]; exact fun e => h.sep k hk j hj e.symm
  · obtain ⟨a, a1, a2, e, _⟩ := dl i hi
    rw [e]
    rcases Nat.lt_or_eq_of_le (Nat.le_of_lt_succ hj) with hl | rfl
    · rw [upd_lt hl]; exact h.sep a a1 j hl
    · rw [upd_at]; exact ne a k a1 hk a2
/-- One number is taken out of a list in place. -/
theorem remove_at {g cap k c2 : Nat} {base : Nat} (hown : W.ownsRow base 3 1 (.slice (some ⟨g, 0, none⟩) q cap) q (intsL L q)) (hk : k < q) (ty : TypeId) :
    ∃ w2, (Builtin.append_ #[30, 30] ty #[.slice (some ⟨g, 0, none⟩) k cap, .slice (if cap = k + 1 then some ⟨g, 0, none⟩ else some ⟨g, k + 1, none⟩) (q - (k + 1)) c2]).run Try.prog W = .ok (.slice (some ⟨g, 0, none⟩) (q - 1) cap) w2 ∧
      w2.ownsRow base 3 1 (.slice (some ⟨g, 0, none⟩) (q - 1) cap) (q - 1) (intsL (del L k) (q - 1)) ∧ W.grownBy w2 (some g) := by
  obtain ⟨i0, hi, hz0, hz1, hz2⟩ := info_parts infoInt
  obtain ⟨hl, ⟨h0, _⟩ | ⟨g', cap', cur, hv, hg, hh, hn, hc, hs, ht⟩⟩ := hown
  · cases h0
  cases hv
  have hq : q ≤ cur.size := by omega
  have eA : (if cap = k + 1 then some ⟨g, 0, none⟩ else some ⟨g, k + 1, none⟩ : Option Addr) = some ⟨g, if cap = k + 1 then 0 else k + 1, none⟩ := by split <;> rfl
  rw [eA]
  have hr := run_append_room (P := Try.prog) W 30 ty 3 i0 Try.underlying30 hi g k cap cur hh ⟨g, if cap = k + 1 then 0 else k + 1, none⟩ (q - (k + 1)) c2 ((intsL L q).drop (k + 1)) (by rw [hz1]; simp [intsL]) (fun j y hj => by
    rw [List.getElem?_drop] at hj
    have hjq : k + 1 + j < q := by
      have := (List.getElem?_eq_some_iff.1 hj).1
      simpa [intsL] using this
    rw [← ht, List.getElem?_take, if_pos (by omega)] at hj
    rw [Addr.add_lit, if_neg (by omega)]
    exact cell_of_heap hh (by simpa using hj)) (fun y hy => by
    have := List.mem_of_mem_drop hy
    obtain ⟨z, _, rfl⟩ := List.mem_map.1 this
    rfl) (by omega) (by rw [hz1]; simp [intsL]; omega)
  rw [show k + (q - (k + 1)) = q - 1 by omega] at hr
  have e1 : cur.toList.take (k * i0.size) = (intsL L q).take k := by
    rw [← ht, hz1, List.take_take, Nat.mul_one, Nat.mul_one, Nat.min_eq_left (by omega)]
  have elen : ((intsL L q).take k).length = k := by simp [intsL]; omega
  have elen2 : ((intsL L q).drop (k + 1)).length = q - (k + 1) := by simp [intsL]
  refine ⟨_, hr, ⟨by simp [intsL], .inr ⟨g, cap, _, rfl, hg, setRow_heap W g cur _ _ _ hh, by omega, hc, ?_, ?_⟩⟩, ⟨rfl, rfl, rfl, by simp, fun i _ hi => setRow_other W g i _ (fun e => hi (by rw [e]))⟩⟩
  · rw [e1]
    simp only [List.size_toArray, List.length_append, elen, elen2, List.length_drop, Array.length_toList]
    rw [hz1]
    omega
  · rw [e1, del_list L hk, show (q - 1) * 1 = ((intsL L q).take k ++ (intsL L q).drop (k + 1)).length by rw [List.length_append, elen, elen2]; omega]
    exact List.take_left
end
/-- An order that is picked. -/
def PickPost (m : Nat) (w : World) (e : Ending) (w' : World) : Prop := ∃ (r : Nat) (A : Option Addr) (c : Nat) (fo : Nat → Int), e = .returned (.slice A r c) ∧ IntsIn w' .i64 A r fo ∧ Ordered m r fo ∧ Only [] w w'
def PickPost2 (m : Nat) (w : World) (e : Ending) (w' : World) : Prop := ∃ (r : Nat) (A : Option Addr) (c : Nat) (fo : Nat → Int), e = .returned (.slice A r c) ∧ IntsIn w' .i64 A r fo ∧ Ordered m r fo ∧ Only [] w w' ∧ r ≤ c ∧ c ≤ maxLen
theorem short_nat {n : Int} (h : (Lit.int .u16 n).wf = true) : ∃ k : Nat, n = k ∧ k ≤ 65535 := by
  have : 0 ≤ n ∧ n ≤ 65535 := by simpa [Lit.wf, IntKind.min, IntKind.max, IntKind.bits, IntKind.signed] using h
  exact ⟨n.toNat, by omega, by omega⟩
theorem ints_owned3 {w : World} {base n : Nat} {T : TypeId} {val : Value} {f : Nat → Int} (h : w.ownsRow base T 1 val n (intsL f n)) (hw : ∀ j, j < n → (Lit.int .i64 (f j)).wf = true) : ∃ A c, val = .slice A n c ∧ IntsIn w .i64 A n f := by
  obtain ⟨hl, ⟨rfl, rfl⟩ | ⟨g, cap, cur, rfl, hg, hh, hn, hc, hs, ht⟩⟩ := h
  · exact ⟨none, 0, rfl, fun h => by omega, hw, by unfold maxLen; omega⟩
  · refine ⟨_, cap, rfl, fun h0 => ⟨g, 0, rfl, heap_lt hh, fun j hj => ?_⟩, hw, by omega⟩
    have e := intsL_at f hj
    rw [← ht, List.getElem?_take, if_pos (by omega)] at e
    rw [Nat.zero_add]
    exact cell_of_heap hh (by simpa using e)
theorem ints_owned4 {w : World} {base n : Nat} {T : TypeId} {val : Value} {f : Nat → Int} (h : w.ownsRow base T 1 val n (intsL f n)) (hw : ∀ j, j < n → (Lit.int .i64 (f j)).wf = true) : ∃ A c, val = .slice A n c ∧ IntsIn w .i64 A n f ∧ n ≤ c ∧ c ≤ maxLen := by
  obtain ⟨A, c, e, hI⟩ := ints_owned3 h hw
  refine ⟨A, c, e, hI, ?_⟩
  obtain ⟨_, ⟨rfl, rfl⟩ | ⟨g, cap, cur, rfl, _, _, hn, hc, _⟩⟩ := h
  · cases e
    exact ⟨Nat.le_refl _, Nat.zero_le _⟩
  · cases e
    exact ⟨hn, hc⟩
end Go.Proofs.Ytipgbbhgmoehfaa
