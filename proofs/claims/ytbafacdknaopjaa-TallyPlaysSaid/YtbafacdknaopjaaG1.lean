import Derived.Test.YtbafacdknaopjaaL1
import Derived.BigQuiet
import Derived.RegionTactic
import Derived.StillTailTactics
import Derived.IntWalk
/-
  The document's tally of chapter 10 in memory; Union, Weight.
-/
namespace Go.Proofs.Ytbafacdknaopjaa
open Go.RowKit
set_option linter.unusedSimpArgs false
set_option linter.unusedSectionVars false

theorem total_up {k n : Nat} {f : Nat → Nat} (h : k ≤ n) : total k f ≤ total n f := by
  induction n with
  | zero => obtain rfl : k = 0 := by omega
            exact Nat.le_refl _
  | succ n ih =>
    by_cases e : k = n + 1
    · subst e; exact Nat.le_refl _
    · have := ih (by omega); simp only [total]; omega
/-- A slice of numbers in one of these blocks. -/
def Slot (W : World) (F : List Nat) (t : TypeId) (v : Value) (n : Nat) (f : Nat → Nat) : Prop := ∃ A c, v = .slice A n c ∧ (0 < n → ∃ g, g ∈ F ∧ A = some ⟨g, 0, none⟩ ∧ RowGe W g t n (fun i => .int .i64 (f i))) ∧ (n = 0 → A = none ∧ c = 0)
theorem Slot.same {W W' : World} {F : List Nat} {t : TypeId} {v : Value} {n : Nat} {f : Nat → Nat} (h : Slot W F t v n f) (hk : ∀ k, k ∈ F → W'.heap[k]? = W.heap[k]?) : Slot W' F t v n f := by
  obtain ⟨A, c, rfl, hr, hz⟩ := h
  refine ⟨A, c, rfl, fun h0 => ?_, hz⟩
  obtain ⟨g, hg, rfl, cs, hc, hv⟩ := hr h0
  exact ⟨g, hg, rfl, cs, (hk g hg).trans hc, hv⟩
theorem Slot.cell {W : World} {F : List Nat} {t : TypeId} {A : Option Addr} {n c : Nat} {f : Nat → Nat} (h : Slot W F t (.slice A n c) n f) {i : Nat} (hi : i < n) : ∃ g, g ∈ F ∧ A = some ⟨g, 0, none⟩ ∧ RowGe W g t n (fun i => .int .i64 (f i)) ∧ W.cell? ⟨g, i, none⟩ = some (.int .i64 (f i)) := by
  obtain ⟨A', c', e, hr, _⟩ := h
  cases e
  obtain ⟨g, hg, rfl, cs, hc, hv⟩ := hr (by omega)
  exact ⟨g, hg, rfl, ⟨cs, hc, hv⟩, cell_of_heap hc (hv i hi)⟩
theorem RowGe.type_ne {W : World} {g g' : Nat} {t t' : TypeId} {n n' : Nat} {v v' : Nat → Value} (h : RowGe W g t n v) (h' : RowGe W g' t' n' v') (ht : t ≠ t') : g ≠ g' := by
  rintro rfl
  obtain ⟨c, hc, _⟩ := h
  obtain ⟨c', hc', _⟩ := h'
  rw [hc] at hc'
  cases hc'
  exact ht rfl
/-- The document's tally. -/
structure Ref (W : World) (F : List Nat) (R : Nat) (v1 v2 : Value) (n : Nat) (lab wt : Nat → Nat) : Prop where
  head : W.heap[R]? = some (.cells #[.bool true, v1, v2] 138 (0, 0))
  inF : R ∈ F
  s1 : Slot W F 2 v1 n wt
  s2 : Slot W F 3 v2 n lab
  labs : Labs n lab
  bound : n ≤ 65536
  low : total n wt ≤ 3037000499
  lt : ∀ k, k ∈ F → k < W.heap.size
def RefAt (W : World) (F : List Nat) (R n : Nat) (lab wt : Nat → Nat) : Prop := ∃ v1 v2, Ref W F R v1 v2 n lab wt
section
variable {W : World} {F : List Nat} {R : Nat} {v1 v2 : Value} {n : Nat} {lab wt : Nat → Nat} (h : Ref W F R v1 v2 n lab wt)
include h
theorem Ref.same {W' : World} (hk : ∀ k, k ∈ F → W'.heap[k]? = W.heap[k]?) (hs : W.heap.size ≤ W'.heap.size) : Ref W' F R v1 v2 n lab wt :=
  ⟨(hk R h.inF).trans h.head, h.inF, h.s1.same hk, h.s2.same hk, h.labs, h.bound, h.low, fun k hk' => Nat.lt_of_lt_of_le (h.lt k hk') hs⟩
theorem Ref.only {W' : World} {gs : List Nat} (o : Only gs W W') (hd : ∀ k, k ∈ F → k ∉ gs) : Ref W' F R v1 v2 n lab wt := h.same (fun k hk => o.block k (h.lt k hk) (hd k hk)) o.size
theorem Ref.keep {W' : World} (o : Only [] W W') : Ref W' F R v1 v2 n lab wt := h.only o fun _ _ m => by simp at m
theorem Ref.c : W.cell? ⟨R, 0, none⟩ = some (.bool true) ∧ W.cell? ⟨R, 1, none⟩ = some v1 ∧ W.cell? ⟨R, 2, none⟩ = some v2 := ⟨cell_of_heap h.head rfl, cell_of_heap h.head rfl, cell_of_heap h.head rfl⟩
set_option maxRecDepth 100000 in
theorem rvalid_any : Calls Try.prog 93 #[.pointer (some ⟨R, 0, none⟩)] W fun e w' => e = .returned (.bool true) ∧ W = w' := by
  have c0 := h.c.1
  clear h
  go_enter Try.func93, Try.ntmps93
  go_wp2
  go_ret
  exact ⟨rfl, rfl⟩
set_option maxRecDepth 100000 in
theorem rexists_any (a : Int) : Calls Try.prog 94 #[.pointer (some ⟨R, 0, none⟩), .int .i64 a] W fun e w' => e = .returned (.bool (inR n a)) ∧ W = w' := by
  have CV := Lib.hid (rvalid_any h)
  have c2 := h.c.2.2
  obtain ⟨A, c, rfl, _⟩ := h.s2
  clear h
  by_cases h0 : 0 ≤ a
  · by_cases h1 : a < n
    · rw [inR_iff.2 ⟨h0, h1⟩]
      go_enter Try.func94, Try.ntmps94
      go_wp2_with fail
      refine CV.out.mono ?_
      rintro e w' ⟨rfl, rfl⟩
      go_wp2_with fail
      go_ret
      exact ⟨rfl, rfl⟩
    · rw [show inR n a = false from decide_eq_false fun h => h1 h.2]
      have q1 : decide (a < (n : Int)) = false := decide_eq_false h1
      go_enter Try.func94, Try.ntmps94
      go_wp2_with fail
      refine CV.out.mono ?_
      rintro e w' ⟨rfl, rfl⟩
      go_wp2_with fail
      go_ret
      exact ⟨rfl, rfl⟩
  · rw [show inR n a = false from decide_eq_false fun h => h0 h.1]
    have q : decide (0 ≤ a) = false := decide_eq_false h0
    go_enter Try.func94, Try.ntmps94
    go_wp2_with fail
    refine CV.out.mono ?_
    rintro e w' ⟨rfl, rfl⟩
    go_wp2_with fail
    go_ret
    exact ⟨rfl, rfl⟩

set_option maxRecDepth 100000 in
set_option maxHeartbeats 4000000 in
theorem RWeight (a : Int) : Calls Try.prog 84 #[.pointer (some ⟨R, 0, none⟩), .int .i64 a] W fun e w' => e = .returned (.int .i64 (wgt n lab wt a)) ∧ Only [] W w' := by
  have CE := Lib.hid (rexists_any h a)
  have HR := Lib.hid h
  have hb := h.bound
  have hlow := h.low
  by_cases ha : 0 ≤ a ∧ a < n
  · rw [inR_iff.2 ha] at CE
    have c1 := h.c.2.1
    have c2 := h.c.2.2
    obtain ⟨A1, k1, rfl, _⟩ := id h.s1
    obtain ⟨A2, k2, rfl, _⟩ := id h.s2
    obtain ⟨ha0, ha1⟩ := ha
    obtain ⟨x, rfl⟩ : ∃ x : Nat, a = (x : Int) := ⟨a.toNat, by omega⟩
    have hx : x < n := by omega
    obtain ⟨g1, m1, rfl, _⟩ := h.s1.cell hx
    obtain ⟨g2, m2, rfl, _, l2⟩ := h.s2.cell hx
    have HW := Lib.hid (show wgt n lab wt (x : Int) = total n (fun b => if lab b = lab x then wt b else 0) from by unfold wgt; rw [if_pos ⟨by omega, by omega⟩]; rfl)
    clear h m1 m2
    go_enter Try.func84, Try.ntmps84
    go_wp2_with fail
    refine CE.out.mono ?_
    rintro e w' ⟨rfl, rfl⟩
    go_wp2_with fail
    go_loopw [5, 6] (fun s i wr => ∃ k m : Nat, k ≤ n ∧ i = .int .i64 k ∧ s = .int .i64 (total k (fun b => if lab b = lab x then wt b else 0)) ∧ wr = W.drewN m) (fun _ i _ => n - (intOf i).toNat)
    case atStart => exact ⟨0, 0, Nat.zero_le _, rfl, rfl, rfl⟩
    case round =>
      obtain ⟨k, m, hk, rfl, rfl, rfl⟩ := hrel
      have ht : total k (fun b => if lab b = lab x then wt b else 0) ≤ total n wt := Nat.le_trans (total_le (g := wt) fun b _ => by split <;> omega) (total_up hk)
      by_cases hlt : k < n
      · obtain ⟨_, _, e1, _, l1⟩ := HR.out.s1.cell hlt
        obtain ⟨_, _, e2, _, l3⟩ := HR.out.s2.cell hlt
        cases e1
        cases e2
        have hwk : wt k ≤ total n wt := total_at_le hlt wt
        have ht2 : total (k + 1) (fun b => if lab b = lab x then wt b else 0) ≤ total n wt := Nat.le_trans (total_le (g := wt) fun b _ => by split <;> omega) (total_up hlt)
        have HT := Lib.hid (show total (k + 1) (fun b => if lab b = lab x then wt b else 0) = total k (fun b => if lab b = lab x then wt b else 0) + if lab k = lab x then wt k else 0 from rfl)
        by_cases he : lab k = lab x
        · rw [if_pos he] at HT
          rw [HT.out] at ht2
          have q : ((lab k : Int) == (lab x : Int)) = true := by simp [he]
          clear he
          go_wp2_with fail
          go_quiet (fail)
          go_wp2_with fail
          go_roundw
          case rel => exact ⟨k + 1, m + nq, by omega, by go_num, by rw [HT.out]; go_num, rfl⟩
          case measure => simp [intOf]; omega
        · rw [if_neg he] at HT
          have q : ((lab k : Int) == (lab x : Int)) = false := by simp; omega
          clear he
          go_wp2_with fail
          go_quiet (fail)
          go_wp2_with fail
          go_roundw
          case rel => exact ⟨k + 1, m + nq, by omega, by go_num, by rw [HT.out]; rfl, rfl⟩
          case measure => simp [intOf]; omega
      · obtain rfl : k = n := by omega
        go_wp2_with fail
        go_ret
        exact ⟨by rw [HW.out]; rfl, (Only.refl [] W).drewN m⟩
  · rw [show inR n a = false from decide_eq_false ha] at CE
    have HW := Lib.hid (show wgt n lab wt a = 0 from if_neg ha)
    clear h ha
    go_enter Try.func84, Try.ntmps84
    go_wp2_with fail
    refine CE.out.mono ?_
    rintro e w' ⟨rfl, rfl⟩
    go_wp2_with fail
    go_ret
    exact ⟨by rw [HW.out]; rfl, Only.refl _ _⟩
end
end Go.Proofs.Ytbafacdknaopjaa

/-
  The document's tally of chapter 10: Union.
-/
namespace Go.Proofs.Ytbafacdknaopjaa
open Go.RowKit
set_option linter.unusedSimpArgs false
set_option linter.unusedSectionVars false

theorem Ref.relabel {W W' : World} {F : List Nat} {R g c : Nat} {v1 : Value} {n : Nat} {lab lab' wt : Nat → Nat} (h : Ref W F R v1 (.slice (some ⟨g, 0, none⟩) n c) n lab wt) (hg : g ∈ F) (h0 : 0 < n) (hr : Row W' g n lab') (o : Only [g] W W') (hl : Labs n lab') :
    Ref W' F R v1 (.slice (some ⟨g, 0, none⟩) n c) n lab' wt := by
  obtain ⟨g2, hg2, e, hr2⟩ : ∃ g2, g2 ∈ F ∧ some (⟨g, 0, none⟩ : Addr) = some ⟨g2, 0, none⟩ ∧ RowGe W g2 3 n (fun i => .int .i64 (lab i)) := by
    obtain ⟨A, k, e, hr, _⟩ := h.s2
    cases e
    exact hr h0
  obtain rfl : g = g2 := by cases e; rfl
  have hR : R ≠ g := fun e => by
    obtain ⟨cs, hc, _⟩ := hr2
    have := h.head
    rw [e, hc] at this
    cases this
  refine ⟨(o.block R (h.lt R h.inF) (by simpa using hR)).trans h.head, h.inF, ?_, ⟨_, _, rfl, fun _ => ⟨g, hg, rfl, hr⟩, fun e => by omega⟩, hl, h.bound, h.low, fun k hk => Nat.lt_of_lt_of_le (h.lt k hk) o.size⟩
  obtain ⟨A, k, rfl, hr1, hz1⟩ := h.s1
  refine ⟨A, k, rfl, fun _ => ?_, hz1⟩
  obtain ⟨g1, hg1, rfl, hr1'⟩ := hr1 h0
  have hne := hr1'.type_ne hr2 (by decide)
  obtain ⟨cs, hc, hv⟩ := hr1'
  exact ⟨g1, hg1, rfl, cs, (o.block g1 (h.lt g1 hg1) (by simpa using hne)).trans hc, hv⟩

section
variable {W : World} {F : List Nat} {R : Nat} {v1 v2 : Value} {n : Nat} {lab wt : Nat → Nat} (h : Ref W F R v1 v2 n lab wt)
include h
set_option maxRecDepth 100000 in
set_option maxHeartbeats 4000000 in
theorem RUnion_in (a b : Nat) (ha : a < n) (hb : b < n) : Calls Try.prog 43 #[.pointer (some ⟨R, 0, none⟩), .int .i64 a, .int .i64 b] W fun e w' => e = .returned (.tuple #[.bool (decide (lab a ≠ lab b)), .int .i64 0]) ∧ Hid (Ref w' F R v1 v2 n (uni lab (a, b)) wt ∧ Only F W w') := by
  have CV := Lib.hid (rvalid_any h)
  have CA := Lib.hid (rexists_any h (a : Int))
  have CB := Lib.hid (rexists_any h (b : Int))
  rw [inR_iff.2 ⟨by omega, by omega⟩] at CA CB
  have hbd := h.bound
  have c2 := h.c.2.2
  have hlab := h.labs
  have hn : 0 < n := by omega
  have HR := Lib.hid h
  obtain ⟨A2, k2, rfl, _⟩ := id h.s2
  obtain ⟨g, hgF, rfl, hrow, la⟩ := h.s2.cell ha
  obtain ⟨g', _, e, _, lb⟩ := h.s2.cell hb
  cases e
  have hR : R ≠ g := fun e => by
    obtain ⟨cs, hc, _⟩ := hrow
    have := h.head
    rw [e, hc] at this
    cases this
  have hgR : g ≠ R := fun e => hR e.symm
  have HRow := Lib.hid (show Row W g n lab from hrow)
  by_cases he : lab a = lab b
  · have HU := Lib.hid (show uni lab (a, b) = lab from uni_same he)
    have q : ((lab a : Int) == (lab b : Int)) = true := by simp [he]
    rw [show decide (lab a ≠ lab b) = false from decide_eq_false fun e => e he]
    clear h hrow he
    go_enter Try.func43, Try.ntmps43
    go_wp2_with fail
    refine CV.out.mono ?_
    rintro e w' ⟨rfl, rfl⟩
    go_wp2_with fail
    refine CA.out.mono ?_
    rintro e w' ⟨rfl, rfl⟩
    go_wp2_with fail
    refine CB.out.mono ?_
    rintro e w' ⟨rfl, rfl⟩
    go_wp2_with fail
    go_quiet (fail)
    go_wp2_with fail
    go_ret2
    exact ⟨rfl, Lib.hid (by rw [HU.out]; exact ⟨HR.out.keep ((Only.refl [] W).drewN _), (Only.refl F W).drewN _⟩)⟩
  · have hra := hlab.lt ha
    have hrb := hlab.lt hb
    rw [show decide (lab a ≠ lab b) = true from decide_eq_true he]
    obtain ⟨x, y, hxy, hx, hy, hs, hm⟩ : ∃ x y, x < y ∧ x < n ∧ y < n ∧ ((lab a = x ∧ lab b = y) ∨ (lab a = y ∧ lab b = x)) ∧ uni lab (a, b) = mer lab x y := by
      rcases Nat.lt_or_gt_of_ne he with hl | hl
      · exact ⟨lab a, lab b, hl, hra, hrb, .inl ⟨rfl, rfl⟩, rfl⟩
      · exact ⟨lab b, lab a, hl, hrb, hra, .inr ⟨rfl, rfl⟩, mer_comm _ _ _⟩
    have HL2 := Lib.hid (hlab.uni (p := (a, b)) ha hb)
    rw [hm] at HL2 ⊢
    have HM := Lib.hid (show ∀ i, (if i < n ∧ lab i = y then x else lab i) = if i < n then mer lab x y i else lab i from fun i => by
      unfold mer
      rw [Nat.min_eq_left (by omega)]
      by_cases hi : i < n
      · rw [if_pos hi]
        by_cases e1 : lab i = y
        · rw [if_pos ⟨hi, e1⟩, if_pos (.inr e1)]
        · rw [if_neg fun h => e1 h.2]
          by_cases e2 : lab i = x
          · rw [if_pos (.inl e2), e2]
          · rw [if_neg (by simp [e1, e2])]
      · rw [if_neg hi, if_neg fun h => hi h.1])
    have q1 : ((x : Int) == (y : Int)) = false := by simp; omega
    have q2 : ((y : Int) == (x : Int)) = false := by simp; omega
    clear h hrow he hra hrb hm hlab
    rcases hs with ⟨ea, eb⟩ | ⟨ea, eb⟩
    all_goals
      rw [ea] at la
      rw [eb] at lb
      clear ea eb
      go_enter Try.func43, Try.ntmps43
      go_wp2_with fail
      refine CV.out.mono ?_
      rintro e w' ⟨rfl, rfl⟩
      go_wp2_with fail
      refine CA.out.mono ?_
      rintro e w' ⟨rfl, rfl⟩
      go_wp2_with fail
      refine CB.out.mono ?_
      rintro e w' ⟨rfl, rfl⟩
      go_wp2_with fail
      go_quiet (fail)
      clear la lb
      go_wp2_with fail
      go_loopw [10] (fun i wr => ∃ k : Nat, k ≤ n ∧ i = .int .i64 k ∧ Hid (Row wr g n (fun i => if i < k ∧ lab i = y then x else lab i)) ∧ Hid (Only [g] W wr)) (fun i _ => n - (intOf i).toNat)
      case atStart => exact ⟨0, Nat.zero_le _, rfl, Lib.hid (HRow.out.congr fun i _ => by simp), Lib.hid ((Only.refl [g] W).drewN _)⟩
      case round =>
        obtain ⟨k, hk, rfl, hr, ho⟩ := hrel
        have s2 : wr.cell? ⟨R, 2, none⟩ = some (.slice (some ⟨g, 0, none⟩) n k2) := cells_keep ho.out c2 (by simpa using hR)
        have C2 := Lib.hid c2
        clear c2
        by_cases hlt : k < n
        · have l1 := hr.out.cell hlt
          rw [if_neg (by omega)] at l1
          have z1 := hr.out.frozen k
          by_cases hy2 : lab k = y
          · have q3 : ((lab k : Int) == (y : Int)) = true := by simp [hy2]
            have HN := Lib.hid (show Row (wr.setCell ⟨g, k, none⟩ (.int .i64 x)) g n (fun i => if i < k + 1 ∧ lab i = y then x else lab i) from (hr.out.put k x).congr fun i _ => by
              unfold put
              by_cases e : i = k
              · subst e; rw [if_pos rfl, if_pos ⟨by omega, hy2⟩]
              · rw [if_neg e]
                show (if i < k ∧ lab i = y then x else lab i) = _
                by_cases e2 : i < k ∧ lab i = y
                · rw [if_pos e2, if_pos ⟨by omega, e2.2⟩]
                · rw [if_neg e2, if_neg fun h => e2 ⟨by omega, h.2⟩])
            clear hy2
            go_wp2_with fail
            go_roundw
            case rel => exact ⟨k + 1, by omega, by go_num, HN, Lib.hid (ho.out.setCell (by simp) _)⟩
            case measure => simp [intOf]; omega
          · have q3 : ((lab k : Int) == (y : Int)) = false := by simp; omega
            have HN := Lib.hid (show Row wr g n (fun i => if i < k + 1 ∧ lab i = y then x else lab i) from hr.out.congr fun i _ => by
              by_cases e : i = k
              · subst e; rw [if_neg fun h => hy2 h.2, if_neg fun h => hy2 h.2]
              · by_cases e2 : i < k ∧ lab i = y
                · rw [if_pos e2, if_pos ⟨by omega, e2.2⟩]
                · rw [if_neg e2, if_neg fun h => e2 ⟨by omega, h.2⟩])
            clear hy2
            go_wp2_with fail
            go_roundw
            case rel => exact ⟨k + 1, by omega, by go_num, HN, ho⟩
            case measure => simp [intOf]; omega
        · obtain rfl : k = n := by omega
          have HF := Lib.hid (show Ref wr F R v1 (.slice (some ⟨g, 0, none⟩) k k2) k (mer lab x y) wt ∧ Only F W wr from
            ⟨HR.out.relabel hgF hn (hr.out.congr fun i hi => by have := HM.out i; rw [if_pos hi] at this; exact this) ho.out HL2.out, ho.out.mono fun j hj => by simp at hj; rw [hj]; exact hgF⟩)
          clear hr ho
          go_wp2_with fail
          go_ret2
          exact ⟨rfl, HF⟩
set_option maxRecDepth 100000 in
theorem RUnion_out (a b : Int) (hab : ¬ ((0 ≤ a ∧ a < n) ∧ (0 ≤ b ∧ b < n))) : Calls Try.prog 43 #[.pointer (some ⟨R, 0, none⟩), .int .i64 a, .int .i64 b] W fun e w' => e = .returned (.tuple #[.bool false, .int .i64 3]) ∧ W = w' := by
  have CV := Lib.hid (rvalid_any h)
  have CA := Lib.hid (rexists_any h a)
  have CB := Lib.hid (rexists_any h b)
  clear h
  by_cases ha : 0 ≤ a ∧ a < n
  · rw [inR_iff.2 ha] at CA
    rw [show inR n b = false from decide_eq_false fun hb => hab ⟨ha, hb⟩] at CB
    clear ha hab
    go_enter Try.func43, Try.ntmps43
    go_wp2_with fail
    refine CV.out.mono ?_
    rintro e w' ⟨rfl, rfl⟩
    go_wp2_with fail
    refine CA.out.mono ?_
    rintro e w' ⟨rfl, rfl⟩
    go_wp2_with fail
    refine CB.out.mono ?_
    rintro e w' ⟨rfl, rfl⟩
    go_wp2_with fail
    go_ret2
    exact ⟨rfl, rfl⟩
  · rw [show inR n a = false from decide_eq_false ha] at CA
    clear ha hab CB
    go_enter Try.func43, Try.ntmps43
    go_wp2_with fail
    refine CV.out.mono ?_
    rintro e w' ⟨rfl, rfl⟩
    go_wp2_with fail
    refine CA.out.mono ?_
    rintro e w' ⟨rfl, rfl⟩
    go_wp2_with fail
    go_ret2
    exact ⟨rfl, rfl⟩
end
theorem RUnion {W : World} {F : List Nat} {R n : Nat} {lab wt : Nat → Nat} (h : RefAt W F R n lab wt) (a b : Int) : Calls Try.prog 43 #[.pointer (some ⟨R, 0, none⟩), .int .i64 a, .int .i64 b] W fun e w' =>
    e = .returned (.tuple #[.bool (okU n lab a b), .int .i64 (erU n a b)]) ∧ RefAt w' F R n (stepU n lab a b) wt ∧ Only F W w' := by
  obtain ⟨v1, v2, h⟩ := h
  by_cases hab : (0 ≤ a ∧ a < n) ∧ (0 ≤ b ∧ b < n)
  · have ea : ((a.toNat : Nat) : Int) = a := by omega
    have eb : ((b.toNat : Nat) : Int) = b := by omega
    have hi : (inR n a && inR n b) = true := by rw [inR_iff.2 hab.1, inR_iff.2 hab.2]; rfl
    have := RUnion_in h a.toNat b.toNat (by omega) (by omega)
    rw [ea, eb] at this
    unfold okU erU stepU
    rw [hi, if_pos rfl, if_pos rfl, Bool.true_and]
    exact this.mono fun e w' ⟨he, hp⟩ => ⟨he, ⟨v1, v2, hp.out.1⟩, hp.out.2⟩
  · refine (RUnion_out h a b hab).mono ?_
    rintro e w' ⟨rfl, rfl⟩
    obtain ⟨e1, e2, e3⟩ := unites_out (lab := lab) hab
    rw [e1, e2, e3]
    exact ⟨rfl, ⟨v1, v2, h⟩, Only.refl _ _⟩
end Go.Proofs.Ytbafacdknaopjaa

/-
  The document's tally of chapter 10: Sets, Count, Largest, Squares.
-/
namespace Go.Proofs.Ytbafacdknaopjaa
open Go.RowKit
set_option linter.unusedSimpArgs false
set_option linter.unusedSectionVars false

/-- A list of numbers that is being put together, in blocks of its own. -/
def ListedL (w : World) (l : List Int) (v : Value) (W : World) : Prop := W.ownsRow w.heap.size 2 1 v l.length (l.map (Value.int .i64)) ∧ Below w.heap.size w W
theorem ListedL.nil (w : World) : ListedL w [] (.slice none 0 0) w := ⟨World.ownsRow_nil _ _ _ _, Below.refl _ _⟩
theorem ListedL.next {w W W' : World} {l : List Int} {x : Int} {v v' : Value} (h : ListedL w l v W) {o : Obj} (h1 : W'.ownsRow w.heap.size 2 1 v' (l.length + 1) (l.map (Value.int .i64) ++ [.int .i64 x])) (hg : (W.alloc o).grownBy W' v.ownBlock) : ListedL w (l ++ [x]) v' W' := by
  obtain ⟨h1', h2⟩ := h
  refine ⟨by rw [List.length_append, List.map_append]; exact h1, (h2.alloc h2.size o).grown hg (by rw [World.size_alloc]; have := h2.size; omega) fun j hj => ?_⟩
  obtain ⟨_, ⟨rfl, _⟩ | ⟨g, cap, cur, rfl, hgb, _⟩⟩ := h1'
  · simp [Value.ownBlock] at hj
  · simp [Value.ownBlock] at hj; omega
/-- A list of numbers as it lies in memory. -/
def IntL (w : World) (A : Option Addr) (l : List Int) : Prop := IntsIn w .i64 A l.length (fun i => l[i]?.getD 0)
theorem ListedL.ints {w W : World} {l : List Int} {v : Value} (h : ListedL w l v W) (hw : ∀ x ∈ l, 0 ≤ x ∧ x ≤ 9223372036854775807) : ∃ A c, v = .slice A l.length c ∧ IntL W A l := by
  refine ints_own (base := w.heap.size) (f := fun i => l[i]?.getD 0) ?_ fun j hj => ?_
  · have e : l.map (Value.int .i64) = (List.range l.length).map fun i => Value.int .i64 (l[i]?.getD 0) := by
      refine List.ext_getElem (by simp) fun i h1 h2 => ?_
      simp at h1
      simp [h1]
    rw [← e]; exact h.1
  · have := hw l[j] (List.getElem_mem hj)
    rw [List.getElem?_eq_getElem hj]
    exact wf_mk this.1 this.2

/-- The sums after k elements. -/
def part (lab wt : Nat → Nat) (k x : Nat) : Nat := total k fun a => if lab a = x then wt a else 0
theorem part_succ (lab wt : Nat → Nat) (k x : Nat) : part lab wt (k + 1) x = part lab wt k x + if lab k = x then wt k else 0 := rfl
theorem part_le {n k : Nat} (lab wt : Nat → Nat) (x : Nat) (hk : k ≤ n) : part lab wt k x ≤ total n wt := Nat.le_trans (total_le (g := wt) fun b _ => by split <;> omega) (total_up hk)
def sl (lab : Nat → Nat) (s : Nat → Nat) (k : Nat) : List Int := ((List.range k).filter fun a => lab a == a).map fun a => (s a : Int)
theorem sl_pos {lab s : Nat → Nat} {k : Nat} (h : lab k = k) : sl lab s (k + 1) = sl lab s k ++ [(s k : Int)] := by
  unfold sl
  rw [List.range_succ, List.filter_append, List.map_append, List.filter_cons_of_pos (by simpa using h)]
  rfl
theorem sl_neg {lab s : Nat → Nat} {k : Nat} (h : lab k ≠ k) : sl lab s (k + 1) = sl lab s k := by
  unfold sl
  rw [List.range_succ, List.filter_append, List.map_append, List.filter_cons_of_neg (by simpa using h)]
  simp
theorem sl_len (lab s : Nat → Nat) (k : Nat) : (sl lab s k).length ≤ k := by
  unfold sl
  rw [List.length_map]
  exact Nat.le_trans (List.length_filter_le _ _) (by simp)

theorem maxL_snoc (l : List Int) (x : Int) : maxL (l ++ [x]) = max x (maxL l) := by
  induction l with
  | nil => rfl
  | cons y l ih => simp only [List.cons_append, maxL, ih]; omega
theorem sqL_pre (l : List Int) (k : Nat) : sqL (l.take k) ≤ sqL l := by
  have := sqL_append (l.take k) (l.drop k)
  rw [List.take_append_drop] at this
  omega
section
variable {W : World} {F : List Nat} {R : Nat} {v1 v2 : Value} {n : Nat} {lab wt : Nat → Nat} (h : Ref W F R v1 v2 n lab wt)
include h
set_option maxRecDepth 100000 in
set_option maxHeartbeats 4000000 in
theorem RSets : Calls Try.prog 140 #[.pointer (some ⟨R, 0, none⟩)] W fun e w' => ∃ A c, e = .returned (.slice A (setsL n lab wt).length c) ∧ Hid (IntL w' A (setsL n lab wt) ∧ Only [] W w') := by
  have CV := Lib.hid (rvalid_any h)
  have HR := Lib.hid h
  have hbd := h.bound
  have hlow := h.low
  have c1 := h.c.2.1
  have c2 := h.c.2.2
  have HLab := Lib.hid h.labs
  obtain ⟨A1, k1, rfl, _⟩ := id h.s1
  obtain ⟨A2, k2, rfl, _⟩ := id h.s2
  obtain ⟨i0, hi, hz0, hz1, hz2⟩ := infoI64
  have hmk := fun W => mk_ints64 n (by omega) W
  obtain ⟨w1, hw1⟩ : ∃ w1, W.alloc (.cells (madeCells #[.int .i64 0] n) 2) = w1 := ⟨_, rfl⟩
  have hO1 := Lib.hid (show Only [] W w1 from hw1 ▸ (Only.refl [] W).alloc _)
  have HS0 := Lib.hid (show Row64 w1 W.heap.size n (part lab wt 0) from (made_row64 (by rw [← hw1]; exact heap_alloc_new W _)).congr fun i _ => rfl)
  have HW := Lib.hid hw1
  have HA := Lib.hid (show ∀ k, k < n → ∃ g1 g2, A1 = some ⟨g1, 0, none⟩ ∧ A2 = some ⟨g2, 0, none⟩ ∧ ∀ wr, Only [] W wr → wr.cell? ⟨R, 1, none⟩ = some (.slice A1 n k1) ∧ wr.cell? ⟨R, 2, none⟩ = some (.slice A2 n k2) ∧ wr.cell? ⟨g1, k, none⟩ = some (.int .i64 (wt k)) ∧ wr.cell? ⟨g2, k, none⟩ = some (.int .i64 (lab k)) from fun k hk => by
    obtain ⟨g1, _, e1, _, l1⟩ := h.s1.cell hk
    obtain ⟨g2, _, e2, _, l2⟩ := h.s2.cell hk
    exact ⟨g1, g2, e1, e2, fun wr o => ⟨cells_keep o c1 (by simp), cells_keep o c2 (by simp), cells_keep o l1 (by simp), cells_keep o l2 (by simp)⟩⟩)
  have HC2 := Lib.hid c2
  clear h hw1 c1
  go_enter Try.func140, Try.ntmps140
  go_wp2_with fail
  refine CV.out.mono ?_
  rintro e w' ⟨rfl, rfl⟩
  go_wp2_with fail
  rw [HW.out]
  clear hmk c2
  go_loopw [5] (fun i wr => ∃ k : Nat, k ≤ n ∧ i = .int .i64 k ∧ Hid (Row64 wr W.heap.size n (part lab wt k)) ∧ Hid (Only [] W wr)) (fun i _ => n - (intOf i).toNat)
  case atStart => exact ⟨0, Nat.zero_le _, rfl, HS0, hO1⟩
  case round =>
    obtain ⟨k, hk, rfl, hr, ho⟩ := hrel
    have s2 : wr.cell? ⟨R, 2, none⟩ = some (.slice A2 n k2) := cells_keep ho.out HC2.out (by simp)
    by_cases hlt : k < n
    · obtain ⟨g1, g2, rfl, rfl, hcs⟩ := HA.out k hlt
      obtain ⟨d1, d2, d3, d4⟩ := hcs wr ho.out
      clear s2 hcs
      obtain ⟨x, hx⟩ : ∃ x, lab k = x := ⟨_, rfl⟩
      have hxn : x < n := hx ▸ HLab.out.lt hlt
      have d5 := hr.out.cell hxn
      have z5 := hr.out.frozen x
      have hwk : wt k ≤ total n wt := total_at_le hlt wt
      have hp1 := part_le lab wt x (show k + 1 ≤ n from hlt)
      rw [part_succ, if_pos hx] at hp1
      rw [hx] at d4
      have HN := Lib.hid (show Row64 (wr.setCell ⟨W.heap.size, x, none⟩ (.int .i64 ((part lab wt k x : Int) + (wt k : Int)))) W.heap.size n (part lab wt (k + 1)) from by
        have := hr.out.put x (part lab wt k x + wt k)
        rw [Int.natCast_add] at this
        refine this.congr fun i _ => ?_
        unfold put
        rw [part_succ]
        by_cases e : i = x
        · subst e; rw [if_pos rfl, if_pos hx]
        · rw [if_neg e, if_neg (by omega)]; rfl)
      obtain ⟨px, hpx⟩ : ∃ px, part lab wt k x = px := ⟨_, rfl⟩
      rw [hpx] at d5 hp1 HN
      have HO := Lib.hid (show Only [] W (wr.setCell ⟨W.heap.size, x, none⟩ (.int .i64 ((px : Int) + (wt k : Int)))) from ho.out.to ((Only.refl [W.heap.size] wr).setCell (by simp) _) fun i hi hlt => by simp at hi; omega)
      clear hx hpx
      go_wp2_with fail
      go_still_tail 27, (by kernel_rfl)
      go_wp2_with fail
      go_roundw
      case rel => exact ⟨k + 1, by omega, by go_num, Lib.hid (HN.out.same rfl), Lib.hid (HO.out.drewN 1)⟩
      case measure => simp [intOf]; omega
    · obtain rfl : k = n := by omega
      have HS := Lib.hid (show Row64 wr W.heap.size k (sumOf k lab wt) from hr.out)
      obtain ⟨W2, rfl⟩ : ∃ W2 : World, W2 = wr := ⟨_, rfl⟩
      have HO2 := ho
      clear hr ho
      go_wp2_with fail
      go_loopw [3, 6] (fun v i wr => ∃ j : Nat, j ≤ k ∧ i = .int .i64 j ∧ Hid (ListedL W2 (sl lab (sumOf k lab wt) j) v wr)) (fun _ i _ => k - (intOf i).toNat)
      case atStart => exact ⟨0, Nat.zero_le _, rfl, Lib.hid (ListedL.nil W2)⟩
      case round =>
        obtain ⟨j, hj, rfl, hL⟩ := hrel
        have hOj := Lib.hid (HO2.out.trans (only_of_below' hL.out.2))
        have s2 : wr.cell? ⟨R, 2, none⟩ = some (.slice A2 k k2) := cells_keep hOj.out HC2.out (by simp)
        have hsl := sl_len lab (sumOf k lab wt) j
        by_cases hlt2 : j < k
        · obtain ⟨g1, g2, rfl, rfl, hcs⟩ := HA.out j hlt2
          obtain ⟨d1, d2, d3, d4⟩ := hcs wr hOj.out
          have d5 := ((HS.out.only (only_of_below' hL.out.2) (by simp)).cell hlt2)
          clear s2 hcs d1 d3
          by_cases hlj : lab j = j
          · have q : ((lab j : Int) == (j : Int)) = true := by simp [hlj]
            have HP := Lib.hid (sl_pos (s := sumOf k lab wt) hlj)
            have hown := hL.out.1
            have hsz := hL.out.2.size
            have hsm := sumOf_le k lab wt j
            generalize sumOf k lab wt j = sj at *
            clear hlj
            go_wp2_with (at_builtin; refine wpList_append_own _ rfl _ _ 25 rfl W2.heap.size 2 i0 (.int .i64 0) 1 8 Try.underlying25 hi hz0 hz1 hz2 rfl (by decide) _ _ _ rfl (hown.alloc _) ⟨wr.heap.size, 0, none⟩ 1 1 [.int .i64 sj] rfl rfl (cell_one_at _ _ _) (by simp [Value.oneCell']) (by unfold maxLen; omega) (by omega) (by simp; omega) ?_; intro v' w3 hown' hgrow _; have HN := Lib.hid (hL.out.next hown' hgrow); clear hown' hgrow hown)
            go_roundw
            case rel => exact ⟨j + 1, by omega, by go_num, Lib.hid (by rw [HP.out]; exact HN.out)⟩
            case measure => simp [intOf]; omega
          · have q : ((lab j : Int) == (j : Int)) = false := by simp; omega
            have HP := Lib.hid (sl_neg (s := sumOf k lab wt) hlj)
            clear hlj
            go_wp2_with fail
            go_roundw
            case rel => exact ⟨j + 1, by omega, by go_num, Lib.hid (by rw [HP.out]; exact hL.out)⟩
            case measure => simp [intOf]; omega
        · obtain rfl : j = k := by omega
          obtain ⟨A, c, rfl, hI⟩ := hL.out.ints fun x hx => by
            obtain ⟨a, _, rfl⟩ := List.mem_map.1 hx
            have := sumOf_le j lab wt a
            omega
          have HF := Lib.hid (show IntL wr A (setsL j lab wt) ∧ Only [] W wr from ⟨hI, hOj.out⟩)
          clear hI hL hOj
          go_wp2_with fail
          go_ret
          exact ⟨A, c, rfl, HF⟩
set_option maxRecDepth 100000 in
theorem RCount : Calls Try.prog 86 #[.pointer (some ⟨R, 0, none⟩)] W fun e w' => e = .returned (.int .i64 (roots n lab)) ∧ Only [] W w' := by
  have CS := Lib.hid (RSets h)
  rw [show roots n lab = (setsL n lab wt).length from (setsL_len n lab wt).symm]
  clear h
  go_enter Try.func86, Try.ntmps86
  go_wp2_with fail
  refine CS.out.mono ?_
  rintro e w1 ⟨A, c, rfl, HP⟩
  go_wp2_with fail
  go_ret
  exact ⟨rfl, HP.out.2⟩
theorem sets_bound : ∀ x ∈ setsL n lab wt, 0 ≤ x ∧ x ≤ 3037000499 := fun x hx => by
  obtain ⟨a, _, _, rfl⟩ := setsL_mem hx
  have := sumOf_le n lab wt a
  have := h.low
  omega
set_option maxRecDepth 100000 in
set_option maxHeartbeats 2000000 in
theorem RLargest : Calls Try.prog 85 #[.pointer (some ⟨R, 0, none⟩)] W fun e w' => e = .returned (.int .i64 (largest n lab wt)) ∧ Only [] W w' := by
  have CS := Lib.hid (RSets h)
  have HB := Lib.hid (sets_bound h)
  have hlen : (setsL n lab wt).length ≤ 65536 := by rw [setsL_len]; exact Nat.le_trans (many_le _ _) h.bound
  rw [show largest n lab wt = maxL (setsL n lab wt) from rfl]
  obtain ⟨l, hl⟩ : ∃ l, setsL n lab wt = l := ⟨_, rfl⟩
  rw [hl] at CS HB hlen ⊢
  clear h hl
  go_enter Try.func85, Try.ntmps85
  go_wp2_with fail
  refine CS.out.mono ?_
  rintro e w1 ⟨A, c, rfl, HP⟩
  go_wp2_with fail
  go_loop [4, 5] (fun s i => ∃ k : Nat, k ≤ l.length ∧ i = .int .i64 k ∧ s = .int .i64 (maxL (l.take k))) (fun _ i => l.length - (intOf i).toNat)
  case atStart => exact ⟨0, Nat.zero_le _, rfl, rfl⟩
  case round =>
    obtain ⟨k, hk, rfl, rfl⟩ := hrel
    by_cases hlt : k < l.length
    · obtain ⟨x, hx⟩ : ∃ x, l[k]? = some x := ⟨_, List.getElem?_eq_getElem hlt⟩
      obtain ⟨b, off, rfl, hc⟩ := HP.out.1.cell hlt
      rw [hx] at hc
      replace hc : w1.cell? ⟨b, off + k, none⟩ = some (.int .i64 x) := hc
      have HT := Lib.hid (show maxL (l.take (k + 1)) = max x (maxL (l.take k)) by rw [List.take_add_one, hx]; exact maxL_snoc _ _)
      clear hx
      generalize maxL (l.take k) = mk at *
      by_cases hgt : mk < x
      · have HT2 := Lib.hid (show maxL (l.take (k + 1)) = x by rw [HT.out]; omega)
        go_wp2_with fail
        go_round
        case rel => exact ⟨k + 1, by omega, by go_num, by rw [HT2.out]⟩
        case measure => simp [intOf]; omega
      · have HT2 := Lib.hid (show maxL (l.take (k + 1)) = mk by rw [HT.out]; omega)
        go_wp2_with fail
        go_round
        case rel => exact ⟨k + 1, by omega, by go_num, by rw [HT2.out]⟩
        case measure => simp [intOf]; omega
    · obtain rfl : k = l.length := by omega
      rw [List.take_of_length_le (Nat.le_refl _)]
      go_wp2_with fail
      go_ret
      exact ⟨rfl, HP.out.2⟩
set_option maxRecDepth 100000 in
set_option maxHeartbeats 2000000 in
theorem RSquares : Calls Try.prog 87 #[.pointer (some ⟨R, 0, none⟩)] W fun e w' => e = .returned (.int .i64 (squares n lab wt)) ∧ Only [] W w' := by
  have CS := Lib.hid (RSets h)
  have HB := Lib.hid (sets_bound h)
  have hlen : (setsL n lab wt).length ≤ 65536 := by rw [setsL_len]; exact Nat.le_trans (many_le _ _) h.bound
  have hsq : squares n lab wt ≤ 9223372036854775807 := by
    have h1 := squares_le n lab wt h.labs
    have h2 : total n wt * total n wt ≤ 3037000499 * 3037000499 := Nat.mul_le_mul h.low h.low
    omega
  rw [← sqL_sets] at hsq ⊢
  obtain ⟨l, hl⟩ : ∃ l, setsL n lab wt = l := ⟨_, rfl⟩
  rw [hl] at CS HB hlen hsq ⊢
  clear h hl
  go_enter Try.func87, Try.ntmps87
  go_wp2_with fail
  refine CS.out.mono ?_
  rintro e w1 ⟨A, c, rfl, HP⟩
  go_wp2_with fail
  go_loopw [4, 5] (fun s i wr => ∃ k m : Nat, k ≤ l.length ∧ i = .int .i64 k ∧ s = .int .i64 (sqL (l.take k)) ∧ wr = w1.drewN m) (fun _ i _ => l.length - (intOf i).toNat)
  case atStart => exact ⟨0, 0, Nat.zero_le _, rfl, rfl, rfl⟩
  case round =>
    obtain ⟨k, m, hk, rfl, rfl, rfl⟩ := hrel
    have hpre := sqL_pre l k
    by_cases hlt : k < l.length
    · obtain ⟨x, hx⟩ : ∃ x, l[k]? = some x := ⟨_, List.getElem?_eq_getElem hlt⟩
      obtain ⟨x0, x1⟩ := HB.out x (by obtain ⟨hh, e⟩ := List.getElem?_eq_some_iff.1 hx; rw [← e]; exact List.getElem_mem hh)
      obtain ⟨b, off, rfl, hc⟩ := HP.out.1.cell hlt
      rw [hx] at hc
      replace hc : w1.cell? ⟨b, off + k, none⟩ = some (.int .i64 x) := hc
      have hT : sqL (l.take (k + 1)) = sqL (l.take k) + x.natAbs * x.natAbs := by rw [List.take_add_one, hx, sqL_append]; simp [sqL]
      have hpre2 := sqL_pre l (k + 1)
      have hT2 : ((sqL (l.take (k + 1)) : Nat) : Int) = (sqL (l.take k) : Int) + x * x := by rw [hT, Int.natCast_add, Int.natCast_mul, Int.natAbs_of_nonneg x0]
      have xx0 : 0 ≤ x * x := Int.mul_nonneg x0 x0
      have w1' : IntKind.i64.wrap (x * x) = x * x := IntWalk.i64_in _ (by omega)
      have w2' : IntKind.i64.wrap ((sqL (l.take k) : Int) + x * x) = (sqL (l.take k) : Int) + x * x := IntWalk.i64_in _ (by omega)
      have HT := Lib.hid hT2
      clear hx hT hT2 hpre2 hpre
      generalize sqL (l.take k) = mk at *
      go_wp2_with fail
      go_quiet (fail)
      clear w1' w2'
      go_wp2_with fail
      go_roundw
      case rel => exact ⟨k + 1, m + nq, by omega, by go_num, by rw [HT.out], rfl⟩
      case measure => simp [intOf]; omega
    · obtain rfl : k = l.length := by omega
      rw [List.take_of_length_le (Nat.le_refl _)]
      go_wp2_with fail
      go_ret
      exact ⟨rfl, HP.out.2.drewN m⟩
end
end Go.Proofs.Ytbafacdknaopjaa
