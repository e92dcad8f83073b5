import Derived.StillTailTactics
import Derived.Maps.AppendAt
import Derived.Test.YtbafacdknaopjaaYE1
import Derived.Test.YtbafacdknaopjaaYU2
/-
  Chapter 27: the law's helper picked.
-/
namespace Go.Proofs.Ytbafacdknaopjaa
open Go.RowKit
attribute [local go_sem] Oper.semAt_some
set_option linter.unusedSimpArgs false
set_option linter.unusedSectionVars false

def intsL (f : Nat → Int) (n : Nat) : List Value := (List.range n).map fun i => .int .i64 (f i)
theorem intsL_succ (f : Nat → Int) (n : Nat) : intsL f (n + 1) = intsL f n ++ [.int .i64 (f n)] := by
  unfold intsL; rw [List.range_succ, List.map_append]; rfl
theorem intsL_len (f : Nat → Int) (n : Nat) : (intsL f n).length = n := by simp [intsL]
theorem intsL_at (f : Nat → Int) {n j : Nat} (h : j < n) : (intsL f n)[j]? = some (.int .i64 (f j)) := by simp [intsL, h]
theorem intsL_congr {f g : Nat → Int} {n : Nat} (h : ∀ j, j < n → f j = g j) : intsL f n = intsL g n := by
  unfold intsL
  exact List.map_congr_left fun j hj => by rw [h j (List.mem_range.1 hj)]
theorem intsL_upd (f : Nat → Int) (n : Nat) (y : Int) : intsL (upd f n y) (n + 1) = intsL f n ++ [.int .i64 y] := by
  rw [intsL_succ, upd_at, intsL_congr fun j hj => upd_lt hj]
/-- One number less. -/
def del (f : Nat → Int) (k : Nat) : Nat → Int := fun j => if j < k then f j else f (j + 1)
theorem del_list (f : Nat → Int) {k q : Nat} (hk : k < q) : intsL (del f k) (q - 1) = (intsL f q).take k ++ (intsL f q).drop (k + 1) := by
  apply List.ext_getElem?
  intro j
  by_cases hj : j < q - 1
  · rw [intsL_at _ hj]
    unfold del
    by_cases hjk : j < k
    · rw [if_pos hjk, List.getElem?_append_left (by simp [intsL]; omega), List.getElem?_take, if_pos hjk, intsL_at _ (by omega)]
    · rw [if_neg hjk, List.getElem?_append_right (by simp [intsL]; omega), List.getElem?_drop]
      have e : (List.take k (intsL f q)).length = k := by simp [intsL]; omega
      rw [e, show k + 1 + (j - k) = j + 1 by omega, intsL_at _ (by omega)]
  · rw [List.getElem?_eq_none (by simp [intsL]; omega), List.getElem?_eq_none (by simp [intsL]; omega)]
/-- The lists that picking keeps. -/
structure PickI (w : World) (m q r : Nat) (L O : Nat → Int) (vl vo : Value) (W : World) : Prop where
  left : W.ownsRow w.heap.size 3 1 vl q (intsL L q)
  out : W.ownsRow w.heap.size 3 1 vo r (intsL O r)
  apart : ∀ g, vl.ownBlock = some g → vo.ownBlock ≠ some g
  lin : ∀ i, i < q → 0 ≤ L i ∧ L i < m
  ld : ∀ i, i < q → ∀ k, k < i → L k ≠ L i
  oin : ∀ i, i < r → 0 ≤ O i ∧ O i < m
  od : ∀ i, i < r → ∀ k, k < i → O k ≠ O i
  sep : ∀ i, i < q → ∀ j, j < r → L i ≠ O j
  bel : Below w.heap.size w W
section
variable {w : World} {m q r : Nat} {L O : Nat → Int} {vl vo : Value} {W : World}
theorem PickI.only (h : PickI w m q r L O vl vo W) {W' : World} (k : Only [] W W') : PickI w m q r L O vl vo W' :=
  ⟨(KeepC.of_only (b := 0) k).owns h.left, (KeepC.of_only (b := 0) k).owns h.out, h.apart, h.lin, h.ld, h.oin, h.od, h.sep, h.bel.trans (k.toBelow.mono h.bel.size)⟩
/-- The next one is taken: it lies in both lists for a moment. -/
theorem PickI.add (h : PickI w m q r L O vl vo W) {k : Nat} {tmp : Obj} {v' : Value} {w1 : World} (hown : w1.ownsRow w.heap.size 3 1 v' (r + 1) (intsL O r ++ [.int .i64 (L k)])) (hg : (W.alloc tmp).grownBy w1 vo.ownBlock) (hat : v'.ownBlock = vo.ownBlock ∨ v'.ownBlock = some (W.alloc tmp).heap.size) :
    w1.ownsRow w.heap.size 3 1 vl q (intsL L q) ∧ w1.ownsRow w.heap.size 3 1 v' (r + 1) (intsL (upd O r (L k)) (r + 1)) ∧ (∀ g, vl.ownBlock = some g → v'.ownBlock ≠ some g) ∧ Below w.heap.size w w1 := by
  refine ⟨(h.left.alloc tmp).kept hg ?_, by rw [intsL_upd]; exact hown, fun g hv => ?_, below_append h.bel h.out hg⟩
  · cases hv : vl.ownBlock with
    | none => exact .inl rfl
    | some g => exact .inr fun e => h.apart g hv e.symm
  · rcases hat with e | e
    · rw [e]; exact h.apart g hv
    · rw [e]
      have := (h.left.lt g hv).2
      intro h2
      cases h2
      rw [World.size_alloc] at this
      omega
/-- .. and is taken out of the other list. -/
theorem PickI.cut (h : PickI w m q r L O vl vo W) {k : Nat} (hk : k < q) {v' : Value} {w2 : World} {vl' : Value} (h2 : w2.ownsRow w.heap.size 3 1 vl' (q - 1) (intsL (del L k) (q - 1))) (ho : w2.ownsRow w.heap.size 3 1 v' (r + 1) (intsL (upd O r (L k)) (r + 1))) (ha : ∀ g, vl'.ownBlock = some g → v'.ownBlock ≠ some g) (hb : Below w.heap.size w w2) :
    PickI w m (q - 1) (r + 1) (del L k) (upd O r (L k)) vl' v' w2 := by
  have dl : ∀ i, i < q - 1 → ∃ j, j < q ∧ j ≠ k ∧ del L k i = L j ∧ (j = i ∧ i < k ∨ j = i + 1 ∧ k ≤ i) := fun i hi => by
    unfold del
    by_cases hik : i < k
    · exact ⟨i, by omega, by omega, if_pos hik, .inl ⟨rfl, hik⟩⟩
    · exact ⟨i + 1, by omega, by omega, if_neg hik, .inr ⟨rfl, by omega⟩⟩
  have ne : ∀ a b, a < q → b < q → a ≠ b → L a ≠ L b := fun a b hq1 hq2 hab => by
    rcases Nat.lt_or_gt_of_ne hab with hl | hl
    · exact h.ld b hq2 a hl
    · exact fun e => h.ld a hq1 b hl e.symm
  refine ⟨h2, ho, ha, fun i hi => ?_, fun i hi j hj => ?_, fun i hi => ?_, fun i hi j hj => ?_, fun i hi j hj => ?_, hb⟩
  · obtain ⟨a, a1, _, e, _⟩ := dl i hi
    rw [e]; exact h.lin a a1
  · obtain ⟨a, a1, _, e, ea⟩ := dl i hi
    obtain ⟨b, b1, _, e2, eb⟩ := dl j (by omega)
    rw [e, e2]
    exact ne b a b1 a1 (by omega)
  · rcases Nat.lt_or_eq_of_le (Nat.le_of_lt_succ hi) with hl | rfl
    · rw [upd_lt hl]; exact h.oin i hl
    · rw [upd_at]; exact h.lin k hk
  · rcases Nat.lt_or_eq_of_le (Nat.le_of_lt_succ hi) with hl | rfl
    · rw [upd_lt hl, upd_lt (by omega)]; exact h.od i hl j hj
    · rw [upd_at, upd_lt hj]; exact fun e => h.sep k hk j hj e.symm
  · obtain ⟨a, a1, a2, e, _⟩ := dl i hi
    rw [e]
    rcases Nat.lt_or_eq_of_le (Nat.le_of_lt_succ hj) with hl | rfl
    · rw [upd_lt hl]; exact h.sep a a1 j hl
    · rw [upd_at]; exact ne a k a1 hk a2
/-- One number is taken out of a list in place. -/
theorem remove_at {g cap k c2 : Nat} {base : Nat} (hown : W.ownsRow base 3 1 (.slice (some ⟨g, 0, none⟩) q cap) q (intsL L q)) (hk : k < q) (ty : TypeId) :
    ∃ w2, (Builtin.append_ #[68, 68] ty #[.slice (some ⟨g, 0, none⟩) k cap, .slice (if cap = k + 1 then some ⟨g, 0, none⟩ else some ⟨g, k + 1, none⟩) (q - (k + 1)) c2]).run Try.prog W = .ok (.slice (some ⟨g, 0, none⟩) (q - 1) cap) w2 ∧
      w2.ownsRow base 3 1 (.slice (some ⟨g, 0, none⟩) (q - 1) cap) (q - 1) (intsL (del L k) (q - 1)) ∧ W.grownBy w2 (some g) := by
  obtain ⟨i0, hi, hz0, hz1, hz2⟩ := info_parts infoInt
  obtain ⟨hl, ⟨h0, _⟩ | ⟨g', cap', cur, hv, hg, hh, hn, hc, hs, ht⟩⟩ := hown
  · cases h0
  cases hv
  have hq : q ≤ cur.size := by omega
  have eA : (if cap = k + 1 then some ⟨g, 0, none⟩ else some ⟨g, k + 1, none⟩ : Option Addr) = some ⟨g, if cap = k + 1 then 0 else k + 1, none⟩ := by split <;> rfl
  rw [eA]
  have hr := run_append_room (P := Try.prog) W 68 ty 3 i0 Try.underlying68 hi g k cap cur hh ⟨g, if cap = k + 1 then 0 else k + 1, none⟩ (q - (k + 1)) c2 ((intsL L q).drop (k + 1)) (by rw [hz1]; simp [intsL]) (fun j y hj => by
    rw [List.getElem?_drop] at hj
    have hjq : k + 1 + j < q := by
      have := (List.getElem?_eq_some_iff.1 hj).1
      simpa [intsL] using this
    rw [← ht, List.getElem?_take, if_pos (by omega)] at hj
    rw [Addr.add_lit, if_neg (by omega)]
    exact cell_of_heap hh (by simpa using hj)) (fun y hy => by
    have := List.mem_of_mem_drop hy
    obtain ⟨z, _, rfl⟩ := List.mem_map.1 this
    rfl) (by omega) (by rw [hz1]; simp [intsL]; omega)
  rw [show k + (q - (k + 1)) = q - 1 by omega] at hr
  have e1 : cur.toList.take (k * i0.size) = (intsL L q).take k := by
    rw [← ht, hz1, List.take_take, Nat.mul_one, Nat.mul_one, Nat.min_eq_left (by omega)]
  have elen : ((intsL L q).take k).length = k := by simp [intsL]; omega
  have elen2 : ((intsL L q).drop (k + 1)).length = q - (k + 1) := by simp [intsL]
  refine ⟨_, hr, ⟨by simp [intsL], .inr ⟨g, cap, _, rfl, hg, setRow_heap W g cur _ _ _ hh, by omega, hc, ?_, ?_⟩⟩, ⟨rfl, rfl, rfl, by simp, fun i _ hi => setRow_other W g i _ (fun e => hi (by rw [e]))⟩⟩
  · rw [e1]
    simp only [List.size_toArray, List.length_append, elen, elen2, List.length_drop, Array.length_toList]
    rw [hz1]
    omega
  · rw [e1, del_list L hk, show (q - 1) * 1 = ((intsL L q).take k ++ (intsL L q).drop (k + 1)).length by rw [List.length_append, elen, elen2]; omega]
    exact List.take_left
end
/-- An order that is picked. -/
def PickPost (m : Nat) (w : World) (e : Ending) (w' : World) : Prop := ∃ (r : Nat) (A : Option Addr) (c : Nat) (fo : Nat → Int), e = .returned (.slice A r c) ∧ IntsIn w' .i64 A r fo ∧ Ordered m r fo ∧ Only [] w w'
def PickPost2 (m : Nat) (w : World) (e : Ending) (w' : World) : Prop := ∃ (r : Nat) (A : Option Addr) (c : Nat) (fo : Nat → Int), e = .returned (.slice A r c) ∧ IntsIn w' .i64 A r fo ∧ Ordered m r fo ∧ Only [] w w' ∧ r ≤ c ∧ c ≤ maxLen
theorem short_nat {n : Int} (h : (Lit.int .u16 n).wf = true) : ∃ k : Nat, n = k ∧ k ≤ 65535 := by
  have : 0 ≤ n ∧ n ≤ 65535 := by simpa [Lit.wf, IntKind.min, IntKind.max, IntKind.bits, IntKind.signed] using h
  exact ⟨n.toNat, by omega, by omega⟩
theorem ints_owned3 {w : World} {base n : Nat} {T : TypeId} {val : Value} {f : Nat → Int} (h : w.ownsRow base T 1 val n (intsL f n)) (hw : ∀ j, j < n → (Lit.int .i64 (f j)).wf = true) : ∃ A c, val = .slice A n c ∧ IntsIn w .i64 A n f := by
  obtain ⟨hl, ⟨rfl, rfl⟩ | ⟨g, cap, cur, rfl, hg, hh, hn, hc, hs, ht⟩⟩ := h
  · exact ⟨none, 0, rfl, fun h => by omega, hw, by unfold maxLen; omega⟩
  · refine ⟨_, cap, rfl, fun h0 => ⟨g, 0, rfl, heap_lt hh, fun j hj => ?_⟩, hw, by omega⟩
    have e := intsL_at f hj
    rw [← ht, List.getElem?_take, if_pos (by omega)] at e
    rw [Nat.zero_add]
    exact cell_of_heap hh (by simpa using e)
theorem ints_owned4 {w : World} {base n : Nat} {T : TypeId} {val : Value} {f : Nat → Int} (h : w.ownsRow base T 1 val n (intsL f n)) (hw : ∀ j, j < n → (Lit.int .i64 (f j)).wf = true) : ∃ A c, val = .slice A n c ∧ IntsIn w .i64 A n f ∧ n ≤ c ∧ c ≤ maxLen := by
  obtain ⟨A, c, e, hI⟩ := ints_owned3 h hw
  refine ⟨A, c, e, hI, ?_⟩
  obtain ⟨_, ⟨rfl, rfl⟩ | ⟨g, cap, cur, rfl, _, _, hn, hc, _⟩⟩ := h
  · cases e
    exact ⟨Nat.le_refl _, Nat.zero_le _⟩
  · cases e
    exact ⟨hn, hc⟩
set_option maxRecDepth 100000 in
set_option maxHeartbeats 4000000 in
theorem picked_cap (m : Nat) (hm : m ≤ 200) (A : Option Addr) (len cap : Nat) (z : Nat → Int) (w : World) (h : IntsIn w .u16 A len z) : Calls Try.prog 60 #[.int .i64 m, .slice A len cap] w (PickPost2 m w) := by
  obtain ⟨i0, hi, hz0, hz1, hz2⟩ := info_parts infoInt
  have HI := Lib.hid h
  have hln := h.len
  unfold maxLen at hln
  clear h
  go_enter Try.func60, Try.ntmps60
  go_wp2_with fail
  go_loopw [5, 7] (fun vl i wr => ∃ k : Nat, k ≤ m ∧ i = .int .i64 k ∧ Hid (wr.ownsRow w.heap.size 3 1 vl k (intsL (fun j => j) k)) ∧ Hid (Below w.heap.size w wr)) (fun _ i _ => m - (intOf i).toNat)
  case atStart => exact ⟨0, Nat.zero_le _, rfl, Lib.hid (World.ownsRow_nil _ _ _ _), Lib.hid (Below.refl _ _)⟩
  case round =>
    obtain ⟨k, hk, rfl, HR, HB⟩ := hrel
    by_cases hlt : k < m
    · have hb := HB.out
      have hrow := HR.out
      have hsz := hb.size
      go_wp2_with (at_builtin; refine wpList_append_own _ rfl _ _ 68 rfl w.heap.size 3 i0 (.int .i64 0) 1 8 Try.underlying68 hi hz0 hz1 hz2 rfl (by decide) _ _ _ rfl (hrow.alloc _) ⟨wr.heap.size, 0, none⟩ 1 1 [.int .i64 k] rfl rfl (cell_one_new _ _ _) (by simp [Value.oneCell']) (by unfold maxLen; omega) (by omega) (by simp; omega) ?_; intro v' w1 hown' hgrow _; have HN := Lib.hid (And.intro (show w1.ownsRow w.heap.size 3 1 v' (k + 1) (intsL (fun j => j) (k + 1)) by rw [intsL_succ]; exact hown') (below_append hb hrow hgrow)); clear hown' hgrow hrow hb)
      go_roundw
      case rel => exact ⟨k + 1, by omega, by go_num, Lib.hid HN.out.1, Lib.hid HN.out.2⟩
      case measure => simp [intOf]; omega
    · obtain rfl : k = m := by omega
      have HP := Lib.hid (show PickI w k k 0 (fun j => j) (fun _ => 0) u5 (.slice none 0 0) wr from ⟨HR.out, World.ownsRow_nil _ _ _ _, fun g hg h => by simp [Value.ownBlock] at h, fun i hi => by omega, fun i hi j hj => by omega, fun i hi => by omega, fun i hi => by omega, fun i hi j hj => by omega, HB.out⟩)
      clear HR HB
      go_wp2_with fail
      go_loopw [5, 6, 8] (fun vl vo i wj => ∃ t q r L O, t ≤ len ∧ q + r = k ∧ i = .int .i64 (t : Nat) ∧ Hid (PickI w k q r L O vl vo wj)) (fun _ _ i _ => len - (intOf i).toNat)
      case atStart => exact ⟨0, k, 0, _, _, Nat.zero_le _, by omega, rfl, HP⟩
      case round =>
        obtain ⟨t, q, r, L, O, ht, hqr, rfl, HP⟩ := hrel
        by_cases hlt2 : t < len ∧ 0 < q
        · obtain ⟨hlt2, hq⟩ := hlt2
          obtain ⟨q, rfl⟩ : ∃ q', q = q' + 1 := ⟨q - 1, by omega⟩
          obtain ⟨g, cl, rfl⟩ := ownsRow_succ HP.out.left
          have hsz := HP.out.bel.size
          obtain ⟨b, off, rfl, c1⟩ := (HI.out.only (only_of_below' HP.out.bel)).cell hlt2
          obtain ⟨a, ha, ha1⟩ := short_nat (HI.out.wf t hlt2)
          rw [ha] at c1
          clear ha
          have hq0 : ¬ ((q + 1 : Nat) : Int) = 0 := by omega
          obtain ⟨k', hk'⟩ : ∃ k', a % (q + 1) = k' := ⟨_, rfl⟩
          have q1 : (a : Int) % ((q : Int) + 1) = (k' : Int) := by rw [← hk', Int.natCast_emod]; rfl
          have lk : k' < q + 1 := hk' ▸ Nat.mod_lt _ (by omega)
          have c2 : wr.cell? ⟨g, k', none⟩ = some (.int .i64 (L k')) := by
            have := HP.out.left.cells (g := g) rfl k' _ (intsL_at L lk)
            rwa [Addr.add_lit, Nat.zero_add] at this
          have hcl : q + 1 ≤ cl ∧ cl ≤ maxLen := by
            obtain ⟨_, ⟨h0, _⟩ | ⟨g', cap', cur, hv, _, _, hn, hc, _⟩⟩ := HP.out.left
            · cases h0
            · cases hv; exact ⟨hn, hc⟩
          obtain ⟨hcl, hcm⟩ := hcl
          unfold maxLen at hcm
          obtain ⟨y, hy⟩ : ∃ y, L k' = y := ⟨_, rfl⟩
          rw [hy] at c2
          have HY := Lib.hid hy
          clear hk' hy
          go_wp2_with (at_builtin; refine wpList_append_own_at _ rfl _ _ 68 rfl w.heap.size 3 i0 (.int .i64 0) 1 8 Try.underlying68 hi hz0 hz1 hz2 rfl (by decide) _ _ _ rfl (HP.out.out.alloc _) ⟨wr.heap.size, 0, none⟩ 1 1 [.int .i64 y] rfl rfl (cell_one_new _ _ _) (by simp [Value.oneCell']) (by unfold maxLen; omega) (by omega) (by simp; omega) ?_; intro v' w1 hown' hgrow _ hat; have HN := Lib.hid (HP.out.add (k := k') (by rw [HY.out]; exact hown') hgrow hat); clear hown' hgrow hat)
          try simp only [q1]
          clear q1 c1 c2
          have lk1 : k' ≤ cl := by omega
          have lk2 : k' + 1 ≤ q + 1 := by omega
          have lk3 : ((k' : Int) + 1).toNat = k' + 1 := by omega
          have lk4 : (k' : Int) + 1 ≤ ((q + 1 : Nat) : Int) := by omega
          have lk5 : (k' : Int) + 1 ≤ (q : Int) + 1 := by omega
          have lk6 : (0 : Int) ≤ (k' : Int) + 1 := by omega
          have lk7 : k' ≤ 200 := by omega
          have wk : IntKind.i64.wrap ((k' : Int) + 1) = (k' : Int) + 1 := IntWalk.i64_in _ (by omega)
          obtain ⟨n1, n2, n3, n4⟩ := HN.out
          obtain ⟨w2, r2, hl2, hg2⟩ := remove_at (c2 := cl - (k' + 1)) n1.drew lk 68
          have HM := Lib.hid (show PickI w k (q + 1 - 1) (r + 1) (del L k') (upd O r (L k')) (.slice (some ⟨g, 0, none⟩) (q + 1 - 1) cl) v' w2 from HP.out.cut lk hl2 (n2.drew.kept hg2 (by
            cases hv : v'.ownBlock with
            | none => exact .inl rfl
            | some g' => exact .inr fun e => n3 g rfl (hv.trans e))) (fun g' hv' => n3 g' hv') ((n4.trans (((Only.refl [] w1).drewN 1).toBelow.mono n4.size)).trans ⟨hg2.os, hg2.tape, hg2.output, hg2.size, fun i hi => hg2.block i (by have := n4.size; simp only [World.drew] at *; omega) (by
            intro e
            cases e
            have := (n1.lt g rfl).1
            omega)⟩))
          clear n1 n2 n3 n4 hl2 hg2 HN HP
          rw [Nat.add_sub_add_right, Nat.add_sub_cancel] at r2
          rw [Nat.add_sub_cancel] at HM
          go_still_tail 7, (by kernel_rfl)
          change wpList _ _ _ _ _ w1.drew
          refine wpList_append_of rfl _ _ 68 rfl rfl rfl r2 ?_
          clear r2
          go_wp2_with fail
          go_roundw
          case rel => exact ⟨t + 1, q, r + 1, _, _, by omega, by omega, by go_num, HM⟩
          case measure => simp [intOf]; omega
        · have HQ : Hid (PickPost2 k w (.returned u6) wr) := Lib.hid (by
            obtain ⟨A', c', rfl, hE, hc1, hc2⟩ := ints_owned4 HP.out.out (fun j hj => by have := HP.out.oin j hj; exact wf_of (by omega) (by omega))
            exact ⟨r, A', c', O, rfl, hE, ⟨HP.out.oin, HP.out.od⟩, only_of_below' HP.out.bel, hc1, hc2⟩)
          by_cases h1 : t < len
          · obtain rfl : q = 0 := by omega
            obtain ⟨Al, cl, rfl⟩ : ∃ Al cl, u5 = .slice Al 0 cl := by
              obtain ⟨_, ⟨e, _⟩ | ⟨g', cap', cur, hv, _⟩⟩ := HP.out.left
              · exact ⟨none, 0, e⟩
              · exact ⟨_, _, hv⟩
            go_wp2_with fail
            go_ret
            exact HQ.out
          · obtain rfl : t = len := by omega
            go_wp2_with fail
            go_ret
            exact HQ.out
theorem picked_any (m : Nat) (hm : m ≤ 200) (A : Option Addr) (len cap : Nat) (z : Nat → Int) (w : World) (h : IntsIn w .u16 A len z) : Calls Try.prog 60 #[.int .i64 m, .slice A len cap] w (PickPost m w) :=
  (picked_cap m hm A len cap z w h).mono fun _ _ ⟨r, A, c, fo, e, hI, ho, hO, _⟩ => ⟨r, A, c, fo, e, hI, ho, hO⟩

end Go.Proofs.Ytbafacdknaopjaa
